import Derived.Test.YtmdfamnnnoieaaaDoorPkL
/- PoolNamed. -/
namespace Go.Proofs.YtmdfamnnnoieaaaDoor
open Go
set_option linter.unusedVariables false
set_option linter.unusedSimpArgs false
set_option maxRecDepth 10000
set_option maxHeartbeats 4000000

theorem encL {xs : List Int} (hx : xs.length ≤ 1000) (hb : ∀ x ∈ xs, -9223372036854775808 ≤ x ∧ x ≤ 9223372036854775807) : FnSpec Tryd.prog 26 [(listV xs).av] [] (.tup ([bytesD (listV xs).enc, .v (.int .i64 0)].map .d)) [] [] := by
  have h0 := spec26 (listV xs) (listV_sz hx hb) (by rw [listV_depth]; decide) (by rw [listV_encoded]; have := listV_len hx hb; omega)
  rw [listV_encoded, listV_check] at h0
  exact h0
theorem put_same {ts : List Tk} (hc : chk ts = true) {t : Tk} (ht : t ∈ ts) : putE ts t.xs = (ts, t.d, 0) := by
  have h := chk_iff.1 hc
  obtain ⟨h1, h2⟩ := h.2 t ht
  have h3 : metOf ts (nmD t.xs) = true := (met_mem h.1).2 ⟨t, ht, h2.symm⟩
  unfold putE
  rw [h1, hc, h3, h2]
  rfl
theorem fewChk {ts : List Tk} (ht0 : ∀ t ∈ ts, t.Ok0) (h : fewB ts = true) : FnSpec Tryd.prog 19 [.d (poolD ts)] [] (iv .i64 (ckE ts)) [] [] :=
  spec19 ts (fun t ht => ((fewB_ok ht0 h).2 t ht).1) (by have := (fewB_ok ht0 h).1; omega)
/-- soundpost/soundpostlaw25.PoolNamed -/
theorem spec6 (ts : List Tk) (ht0 : ∀ t ∈ ts, t.Ok0) : FnSpec Tryd.prog 6 [.d (poolD ts)] [] (bv true) [] [] := by
  refine fnSpec_of (rs := [.tmp 2]) Tryd.func6 rfl rfl (Nat.le_of_ble_eq_true rfl) (by simp [St.get]) fun E hk hn => ?_
  apply WPA.seq
  apply WPA.region
  · apply Trace.boxD 1 [] (.plain rfl) rfl rfl
    apply Trace.pu [] (.assign (.plain rfl))
    exact .nil _
  · exact keepOK_of hk hn rfl
  apply WPA.seq
  apply WPA.seq
  apply WPA.region
  · apply Trace.cu (callArgs0 .nil) spec9 en9
    apply Trace.pu [] (.not (.plain rfl))
    exact .nil _
  · exact keepOK_of hk hn rfl
  refine WPA.cond rfl (fun hc1 => ?_) (fun hc1 => ?_)
  · cases hc1
  · apply WPA.skip
    apply WPA.seq
    apply WPA.seq
    apply WPA.region
    · apply Trace.pu [_] (.loadAllD ty24 (.plain rfl) rfl rfl)
      apply Trace.cu (callArgs0 (.cons (.plain rfl) .nil)) (spec10 ts ht0) en10
      apply Trace.pu [] (.not (.plain rfl))
      apply Trace.pu [] (.move (.plain rfl))
      apply Trace.pg [_] rfl (.loadAllD ty24 (.plain rfl) rfl rfl)
      apply Trace.cg rfl (callArgs0 (.cons (.gd rfl (fun h => h)) .nil)) (fun h => fewChk ht0 (by simpa using h)) en19
      apply Trace.pg [] rfl (.cmp (.gd rfl (fun h => h)) (.plain rfl) rfl)
      apply Trace.pu [] (.pick (.plain rfl) (.plain rfl) (.gd rfl (by simp)))
      exact .nil _
    · exact keepOK_of hk hn rfl
    refine WPA.cond rfl (fun hc2 => ?_) (fun hc2 => ?_)
    · apply WPA.seq
      apply WPA.region
      · apply Trace.pu [] (.assign (.plain rfl))
        exact .nil _
      · exact keepOK_of hk hn rfl
      apply WPA.ret
      refine ⟨.inr rfl, ⟨_, (.cons (.tmp rfl) .nil), ?_⟩, by simp [St.get]⟩
      rfl
    · have hf : fewB ts = true ∧ chk ts = true := by
        cases h : fewB ts with
        | false => rw [h] at hc2; simp at hc2
        | true =>
          cases h2 : chk ts with
          | false => simp [h, ckE, h2] at hc2
          | true => exact ⟨rfl, rfl⟩
      obtain ⟨hf, hC⟩ := hf
      obtain ⟨h8, hto0⟩ := fewB_ok ht0 hf
      have hts : ∀ t ∈ ts, t.Ok := fun t h => (hto0 t h).1
      apply WPA.skip
      apply WPA.seq
      apply WPA.seq
      apply WPA.region
      · apply Trace.pu [] (.assign (.plain rfl))
        exact .nil _
      · exact keepOK_of hk hn rfl
      apply WPA.block
      refine WPA.loop (σ := Nat) (fun i => [(sl 1, .av (.loc 1 0)), (sl 3, .av (iv .i64 (i))), (bk 1, .blk (.data [tksD ts]))]) (fun i => i ≤ ts.length) (fun i => ts.length - i) 0
        (St.le_cons rfl (St.le_cons rfl (St.le_cons rfl (St.le_nil _)))) (Nat.zero_le _) fun i hi => ?_
      apply WPA.seq
      apply WPA.seq
      apply WPA.region
      · apply Trace.pu [] (.move (.plain rfl))
        apply Trace.pu [] (.fieldAddr fl24_0 (.plain rfl) rfl)
        first | apply Trace.pu [_] (.loadLoc1D ty22 (.plain rfl) rfl rfl) | apply Trace.pu [_] (.loadLoc1 ty22 (.plain rfl) rfl rfl) | apply Trace.pu [] (.loadRp1 ty22 (.plain rfl) rfl) | apply Trace.pu [_] (.loadCol1 ty22 (.plain rfl) rfl rfl rfl (fun _ => by omega))
        apply Trace.pu [] (.len rfl Tryd.underlying22 (.plain rfl) rfl)
        apply Trace.pu [] (.cmp (.plain rfl) (.plain rfl) rfl)
        exact .nil _
      · exact keepOK_of hk hn rfl
      refine WPA.cond rfl (fun hc3 => ?_) (fun hc3 => ?_)
      · have hlt : i < ts.length := by simp at hc3; omega
        obtain ⟨t, hte⟩ : ∃ t, ts.getD i default = t := ⟨_, rfl⟩
        have htm : t ∈ ts := by rw [← hte]; exact getD_mem' hlt
        have hto : t.Ok := hts _ htm
        have hP := put_same hC htm
        have hnm := ((chk_iff.1 hC).2 t htm).2
        have hdl := hto.len
        have hfw := hto.few
        have hbg := hto.big
        apply WPA.skip
        apply WPA.seq
        apply WPA.block
        apply WPA.seq
        apply WPA.region
        · apply Trace.pu [] (.build zo53 pl53 (.cons (.plain rfl) rfl rfl (Nat.le_of_ble_eq_true rfl) (.nil _ _)) rfl)
          apply Trace.alloc 4 [] (.data _) zo53 (cellsAs_data _) rfl
          first | apply Trace.storeD ty53 (.plain rfl) (.plain rfl) rfl rfl (by simp) (by simp [AV.oneB, single]) (by simp) (spliceL_all (by simp)) | apply Trace.storeD ty53 (.plain rfl) (.plain rfl) rfl rfl (by simp) (by simp [AV.oneB, single]) (by simp) rfl | apply Trace.storeDA ty53 (.plain rfl) (.plain rfl) rfl rfl (by simp) (by simp [AV.oneB, single]) (by simp) rfl | apply Trace.storeLoc ty53 (.plain rfl) (.plain rfl) rfl rfl (by simp) (by simp [AV.oneB, single]) (by simp) rfl | apply Trace.storeRow ty53 (.plain rfl) (.plain rfl) rfl rfl rfl rfl (by decide) (by simp [AV.oneB, single]) rfl (by omega)
          exact .nil _
        · exact keepOK_of hk hn rfl
        apply WPA.seq
        apply WPA.seq
        apply WPA.region
        · apply Trace.pu [] (.assign (.plain rfl))
          exact .nil _
        · exact keepOK_of hk hn rfl
        apply WPA.block
        refine WPA.ghost (Ghost.dataCells (l := 4) rfl rfl) ?_
        refine WPA.ghost (Ghost.cellNil (lb := 4) (j := 3) (l := 5) (cols := valCols []) (n := 4) rfl rfl rfl rfl (by rw [hk]; decide) rfl (valCols_len []) rfl) ?_
        refine WPA.loop (σ := Nat) (fun j => [(sl 1, .av (.loc 1 0)), (sl 3, .av (iv .i64 (i))), (sl 4, .av (.loc 4 0)), (sl 5, .av (iv .i64 (j))), (bk 1, .blk (.data [tksD ts])), (bk 4, .blk (.cells [iv .i64 3, iv .i64 0, sv ⟨#[]⟩, .own 5 ((t.xs.take j).map numV).length])), (bk 5, .blk (.app 4 ((t.xs.take j).map numV).length (valCols ((t.xs.take j).map numV))))]) (fun j => j ≤ t.xs.length) (fun j => t.xs.length - j) 0
          (St.le_cons rfl (St.le_cons rfl (St.le_cons rfl (St.le_cons rfl (St.le_cons rfl (St.le_cons rfl (St.le_cons rfl (St.le_nil _)))))))) (Nat.zero_le _) fun j hj => ?_
        apply WPA.seq
        apply WPA.seq
        apply WPA.region
        · apply Trace.pu [] (.move (.plain rfl))
          apply Trace.pu [] (.fieldAddr fl24_0 (.plain rfl) rfl)
          first | apply Trace.pu [_] (.loadLoc1D ty22 (.plain rfl) rfl rfl) | apply Trace.pu [_] (.loadLoc1 ty22 (.plain rfl) rfl rfl) | apply Trace.pu [] (.loadRp1 ty22 (.plain rfl) rfl) | apply Trace.pu [_] (.loadCol1 ty22 (.plain rfl) rfl rfl rfl (fun _ => by omega))
          apply Trace.pu [] (.move (.plain rfl))
          first | apply Trace.pu [] (.indexRows el22 (.plain rfl) (.plain rfl) (fun _ => ⟨by omega, by omega⟩)) | apply Trace.pu [] (.indexOwn el22 (.plain rfl) (.plain rfl) (fun _ => ⟨by omega, by omega⟩)) | apply Trace.pu [] (.indexSl el22 (.plain rfl) (.plain rfl) (fun _ => ⟨by omega, by omega⟩)) | apply Trace.pu [] (.indexSa el22 (.plain rfl) (.plain rfl) (fun _ => ⟨by omega, by omega⟩))
          apply Trace.pu [] (.fieldAddr fl49_1 (.plain rfl) rfl)
          apply Trace.pu [] (.loadRp1 ty25 (.plain rfl) (r := intsD t.xs) (by rw [Int.toNat_natCast, ← hte]; exact row_x hts hlt))
          apply Trace.pu [] (.len rfl Tryd.underlying25 (.plain rfl) rfl)
          apply Trace.pu [] (.cmp (.plain rfl) (.plain rfl) rfl)
          exact .nil _
        · exact keepOK_of hk hn rfl
        refine WPA.cond rfl (fun hc4 => ?_) (fun hc4 => ?_)
        · have hjl : j < t.xs.length := by simp at hc4; omega
          have hvl : ((t.xs.take j).map numV).length = j := by simp; omega
          obtain ⟨x, hxe⟩ : ∃ x, t.xs.getD j 0 = x := ⟨_, rfl⟩
          have htk := listV_take hjl
          rw [hxe] at htk
          obtain ⟨vs, hvs⟩ : ∃ vs, ((t.xs.take j).map numV) = vs := ⟨_, rfl⟩
          rw [hvs] at htk hvl
          rw [hvs]
          apply WPA.skip
          apply WPA.seq
          apply WPA.block
          apply WPA.draw mixed
          · apply Trace.pu [] (.fieldAddr fl53_3 (.plain rfl) rfl)
            first | apply Trace.pu [_] (.loadLoc1D ty51 (.plain rfl) rfl rfl) | apply Trace.pu [_] (.loadLoc1 ty51 (.plain rfl) rfl rfl) | apply Trace.pu [] (.loadRp1 ty51 (.plain rfl) rfl) | apply Trace.pu [_] (.loadCol1 ty51 (.plain rfl) rfl rfl rfl (fun _ => by omega))
            apply Trace.pu [] (.fieldAddr fl24_0 (.plain rfl) rfl)
            first | apply Trace.pu [_] (.loadLoc1D ty22 (.plain rfl) rfl rfl) | apply Trace.pu [_] (.loadLoc1 ty22 (.plain rfl) rfl rfl) | apply Trace.pu [] (.loadRp1 ty22 (.plain rfl) rfl) | apply Trace.pu [_] (.loadCol1 ty22 (.plain rfl) rfl rfl rfl (fun _ => by omega))
            apply Trace.pu [] (.move (.plain rfl))
            first | apply Trace.pu [] (.indexRows el22 (.plain rfl) (.plain rfl) (fun _ => ⟨by omega, by omega⟩)) | apply Trace.pu [] (.indexOwn el22 (.plain rfl) (.plain rfl) (fun _ => ⟨by omega, by omega⟩)) | apply Trace.pu [] (.indexSl el22 (.plain rfl) (.plain rfl) (fun _ => ⟨by omega, by omega⟩)) | apply Trace.pu [] (.indexSa el22 (.plain rfl) (.plain rfl) (fun _ => ⟨by omega, by omega⟩))
            apply Trace.pu [] (.fieldAddr fl49_1 (.plain rfl) rfl)
            apply Trace.pu [] (.loadRp1 ty25 (.plain rfl) (r := intsD t.xs) (by rw [Int.toNat_natCast, ← hte]; exact row_x hts hlt))
            apply Trace.pu [] (.move (.plain rfl))
            first | apply Trace.pu [] (.indexRows el25 (.plain rfl) (.plain rfl) (fun _ => ⟨by omega, by omega⟩)) | apply Trace.pu [] (.indexOwn el25 (.plain rfl) (.plain rfl) (fun _ => ⟨by omega, by omega⟩)) | apply Trace.pu [] (.indexSl el25 (.plain rfl) (.plain rfl) (fun _ => ⟨by omega, by omega⟩)) | apply Trace.pu [] (.indexSa el25 (.plain rfl) (.plain rfl) (fun _ => ⟨by omega, by omega⟩))
            apply Trace.pu [] (.loadRp1 ty3 (.plain rfl) (r := .v (.int .i64 x)) (by show [D.v (.int .i64 (t.xs.getD ((j : Int)).toNat 0))][0]? = _; rw [Int.toNat_natCast, hxe]; rfl))
            apply Trace.pu [] ((Pure.build zo53 pl53 (.cons (.plain rfl) rfl rfl (Nat.le_of_ble_eq_true rfl) (.cons (.plain rfl) rfl rfl (Nat.le_of_ble_eq_true rfl) (.nil _ _))) rfl).imp (v := .d (.agg [.v (.int .i64 1), .v (.int .i64 x), .v (.string ⟨#[]⟩), .rows 4 0 (Val.row [])])) (by exact den_aggLe (.same (.same (.same (.rows .nil))))))
            apply Trace.buildSlice 52 [] so51 zo53 rfl (by decide) (by decide) (.cons (.plain rfl) rfl rfl (Nat.le_of_ble_eq_true rfl) (.nil _ _)) rfl rfl rfl
            apply Trace.append 53 [bk 5] ap51 kd51 (by decide) (.own (.plain rfl) rfl) (.own (.plain rfl) rfl) (Col.ones rfl) (labs_ok rfl) (by omega) (by omega) (valCols_snoc vs 1 x ⟨#[]⟩ []) rfl
            apply Trace.pu [] (.fieldAddr fl53_3 (.plain rfl) rfl)
            apply Trace.storeLoc ty51 (.plain rfl) (.plain rfl) rfl rfl rfl (by simp [AV.oneB, single]) (Nat.le_of_ble_eq_true rfl) rfl
            exact .nil _
          · rfl
          · exact keepOK_of hk hn rfl
          refine WPA.ghost (Ghost.swap 5 53 (by rw [hk]; decide) (by rw [hk]; decide) rfl) ?_
          apply WPA.region
          · apply Trace.pu [] (.move (.plain rfl))
            apply Trace.pu [] (.arith (.plain rfl) (.plain rfl) rfl (fun _ => bd64 (by omega)))
            apply Trace.pu [] (.assign (.plain rfl))
            exact .nil _
          · exact keepOK_of hk hn rfl
          exact ⟨j + 1, by omega, by omega, St.le_cons rfl (St.le_cons rfl (St.le_cons rfl (St.le_cons (iv_eq (by omega)) (St.le_cons rfl (St.le_cons (by rw [htk]; exact vcell_st (by simp)) (St.le_cons (by rw [htk]; exact vapp_st rfl (by simp)) (St.le_nil _)))))))⟩
        · have hend : j = t.xs.length := by simp at hc4; omega
          subst hend
          rw [List.take_length]
          apply WPA.exit
          apply WPA.seq
          refine WPA.ghost (Ghost.cellFreeze (lb := 4) (j := 3) (l := 5) (g := Val.row (t.xs.map numV)) rfl rfl rfl rfl (fun j hj => valCols_row (t.xs.map numV) j hj) rfl) ?_
          apply WPA.region
          · apply Trace.pu [_] ((Pure.loadLoc ty53 (.plain rfl) rfl (fun _ => Nat.le_of_ble_eq_true rfl)).to (y := (listV t.xs).av) (by rfl))
            apply Trace.ct (callArgs0 (.cons (.plain rfl) .nil)) (encL hfw hbg) en26
            apply Trace.pu [] (.move (.plain rfl))
            apply Trace.pu [] (.extract (.plain rfl) rfl)
            apply Trace.pu [] (.extract (.plain rfl) rfl)
            apply Trace.pu [] (.assign (.plain rfl))
            apply Trace.pu [] (.assign (.plain rfl))
            exact .nil _
          · exact keepOK_of hk hn rfl
          apply WPA.seq
          apply WPA.draw mixed
          · apply Trace.pu [_] (.loadAllD ty24 (.plain rfl) rfl rfl)
            apply Trace.pu [] (.fieldAddr fl24_0 (.plain rfl) rfl)
            first | apply Trace.pu [_] (.loadLoc1D ty22 (.plain rfl) rfl rfl) | apply Trace.pu [_] (.loadLoc1 ty22 (.plain rfl) rfl rfl) | apply Trace.pu [] (.loadRp1 ty22 (.plain rfl) rfl) | apply Trace.pu [_] (.loadCol1 ty22 (.plain rfl) rfl rfl rfl (fun _ => by omega))
            apply Trace.pu [] (.move (.plain rfl))
            first | apply Trace.pu [] (.indexRows el22 (.plain rfl) (.plain rfl) (fun _ => ⟨by omega, by omega⟩)) | apply Trace.pu [] (.indexOwn el22 (.plain rfl) (.plain rfl) (fun _ => ⟨by omega, by omega⟩)) | apply Trace.pu [] (.indexSl el22 (.plain rfl) (.plain rfl) (fun _ => ⟨by omega, by omega⟩)) | apply Trace.pu [] (.indexSa el22 (.plain rfl) (.plain rfl) (fun _ => ⟨by omega, by omega⟩))
            apply Trace.pu [] (.fieldAddr fl49_1 (.plain rfl) rfl)
            apply Trace.pu [] (.loadRp1 ty25 (.plain rfl) (r := intsD t.xs) (by rw [Int.toNat_natCast, ← hte]; exact row_x hts hlt))
            apply Trace.ct (callArgs0 (.cons (.plain rfl) (.cons (.plain rfl) .nil))) (putF hts (by omega) hfw hbg hP) en11
            apply Trace.pu [] (.move (.plain rfl))
            apply Trace.pu [] (.extract (.plain rfl) rfl)
            apply Trace.pu [] (.extract (.plain rfl) rfl)
            apply Trace.pu [] (.extract (.plain rfl) rfl)
            apply Trace.alloc 8 [] (.data _) zo24 (cellsAs_data _) rfl
            apply Trace.alloc 9 [] (.data (List.replicate 32 (D.v (.int .u8 0)))) zo27 (cellsAs_data _) rfl
            apply Trace.storeD ty24 (.plain rfl) (.plain rfl) rfl rfl rfl (by simp [AV.oneB, single]) (Nat.le_of_ble_eq_true rfl) rfl
            apply Trace.storeD (cs' := t.d.map fun x => .v (.int .u8 x)) ty27 (.plain rfl) (.plain rfl) rfl rfl (by simp [hdl]) (by_one _) (by decide) (spliceL_all (by simp [hdl]))
            apply Trace.pu [] (.assign (.plain rfl))
            exact .nil _
          · rfl
          · exact keepOK_of hk hn rfl
          apply WPA.seq
          apply WPA.draw mixed
          · apply Trace.pu [] (.move (.plain rfl))
            apply Trace.pu [] (.cmp (.plain rfl) (.plain rfl) rfl)
            apply Trace.pu [] (.move (.plain rfl))
            apply Trace.og rfl
            apply Trace.pu [] (.move (.plain rfl))
            apply Trace.og rfl
            apply Trace.pu [] (.cmp (.plain rfl) (.plain rfl) rfl)
            apply Trace.pu [] (.pick (.plain rfl) (.plain rfl) (.plain rfl))
            apply Trace.pu [] (.move (.plain rfl))
            apply Trace.og rfl
            apply Trace.pu [_] (.loadAllD ty27 (.plain rfl) rfl (by simp [hdl]))
            apply Trace.og rfl
            apply Trace.pu [] (.fieldAddr fl24_0 (.plain rfl) rfl)
            apply Trace.og rfl
            first | apply Trace.pu [_] (.loadLoc1D ty22 (.plain rfl) rfl rfl) | apply Trace.pu [_] (.loadLoc1 ty22 (.plain rfl) rfl rfl) | apply Trace.pu [] (.loadRp1 ty22 (.plain rfl) rfl) | apply Trace.pu [_] (.loadCol1 ty22 (.plain rfl) rfl rfl rfl (fun _ => by omega))
            apply Trace.og rfl
            apply Trace.pu [] (.move (.plain rfl))
            apply Trace.og rfl
            first | apply Trace.pu [] (.indexRows el22 (.plain rfl) (.plain rfl) (fun _ => ⟨by omega, by omega⟩)) | apply Trace.pu [] (.indexOwn el22 (.plain rfl) (.plain rfl) (fun _ => ⟨by omega, by omega⟩)) | apply Trace.pu [] (.indexSl el22 (.plain rfl) (.plain rfl) (fun _ => ⟨by omega, by omega⟩)) | apply Trace.pu [] (.indexSa el22 (.plain rfl) (.plain rfl) (fun _ => ⟨by omega, by omega⟩))
            apply Trace.og rfl
            apply Trace.pu [] (.fieldAddr fl49_0 (.plain rfl) rfl)
            apply Trace.og rfl
            apply Trace.pu [] ((Pure.loadRp ty27 (.plain rfl) (fun _ => by rw [Int.toNat_natCast, List.drop_zero]; have := tk_len hts (i := i) (by omega); exact Nat.le_trans (by decide) this)).to (y := .d (byD t.d)) (by rw [← hte, Int.toNat_natCast]; exact row_d hts (by omega)))
            apply Trace.og rfl
            apply Trace.pu [] ((Pure.ane ba27 (.plain rfl) (.plain rfl) (fun _ => hdl) (fun _ => hdl)).to (y := bv false) (congrArg bv (by simp)))
            apply Trace.pu [] (.pick (.plain rfl) (.plain rfl) (.plain rfl))
            apply Trace.pu [] (.move (.plain rfl))
            apply Trace.og rfl
            apply Trace.pu [_] (.loadAllD ty27 (.plain rfl) rfl (by simp [hdl]))
            apply Trace.og rfl
            apply Trace.pu [] (.move (.plain rfl))
            apply Trace.og rfl
            apply Trace.cu (callArgs0 (.cons (.plain rfl) (.cons (.plain rfl) .nil))) (spec27 ⟨#[116, 97, 107, 101]⟩ (by decide) (listV t.xs).enc _ (by have := listV_len hfw hbg; omega) (fun i hi => rfl)) en27
            apply Trace.og rfl
            apply Trace.pu [] ((Pure.ane ba27 (.plain rfl) (.plain rfl) (fun _ => hdl) (fun _ => tagM_length _ _)).to (y := bv false) (congrArg bv (by rw [show tagM (bytesI ⟨#[116, 97, 107, 101]⟩) (listV t.xs).enc = t.d from hnm]; simp)))
            apply Trace.pu [] (.pick (.plain rfl) (.plain rfl) (.plain rfl))
            apply Trace.pu [] (.move (.plain rfl))
            apply Trace.og rfl
            apply Trace.pu [_] (.loadAllD ty24 (.plain rfl) rfl rfl)
            apply Trace.og rfl
            apply Trace.pu [_] (.loadAllD ty24 (.plain rfl) rfl rfl)
            apply Trace.og rfl
            apply Trace.cu (callArgs0 (.cons (.plain rfl) (.cons (.plain rfl) .nil))) (sameT hts (by omega) hts (by omega) (decide_eq_true rfl)) en17
            apply Trace.og rfl
            apply Trace.pu [] (.not (.plain rfl))
            apply Trace.pu [] (.pick (.plain rfl) (.plain rfl) (.plain rfl))
            exact .nil _
          · rfl
          · exact keepOK_of hk hn rfl
          refine WPA.cond rfl (fun hc5 => ?_) (fun hc5 => ?_)
          · cases hc5
          · apply WPA.skip
            apply WPA.region
            · apply Trace.pu [] (.move (.plain rfl))
              apply Trace.pu [] (.arith (.plain rfl) (.plain rfl) rfl (fun _ => bd64 (by omega)))
              apply Trace.pu [] (.assign (.plain rfl))
              exact .nil _
            · exact keepOK_of hk hn rfl
            exact ⟨i + 1, by omega, by omega, St.le_cons rfl (St.le_cons (iv_eq (by omega)) (St.le_cons rfl (St.le_nil _)))⟩
      · apply WPA.exit
        apply WPA.seq
        apply WPA.region
        · apply Trace.pu [] (.assign (.plain rfl))
          exact .nil _
        · exact keepOK_of hk hn rfl
        apply WPA.ret
        refine ⟨.inr rfl, ⟨_, (.cons (.tmp rfl) .nil), ?_⟩, by simp [St.get]⟩
        rfl

end Go.Proofs.YtmdfamnnnoieaaaDoor


/- PoolMerged. -/
namespace Go.Proofs.YtmdfamnnnoieaaaDoor
open Go
set_option linter.unusedVariables false
set_option linter.unusedSimpArgs false
set_option maxRecDepth 10000
set_option maxHeartbeats 4000000

theorem mrg_digs {a b : List Tk} (ha : SrtP a) (hb : SrtP b) (k : List Int) : (∃ t ∈ mrg a b, t.d = k) ↔ (∃ t ∈ a, t.d = k) ∨ ∃ t ∈ b, t.d = k := by
  have h := (mrg_spec a b ha hb).2
  constructor
  · rintro ⟨t, ht, e⟩
    rcases (h t).1 ht with h1 | ⟨h1, _⟩
    · exact .inl ⟨t, h1, e⟩
    · exact .inr ⟨t, h1, e⟩
  · rintro (⟨t, ht, e⟩ | ⟨t, ht, e⟩)
    · exact ⟨t, (h t).2 (.inl ht), e⟩
    · by_cases hx : ∃ s ∈ a, s.d = t.d
      · obtain ⟨s, hs, e2⟩ := hx
        exact ⟨s, (h s).2 (.inl hs), e2.trans e⟩
      · exact ⟨t, (h t).2 (.inr ⟨ht, fun s hs e2 => hx ⟨s, hs, e2⟩⟩), e⟩
/-- The digests of what is merged do not depend on the order. -/
theorem mrg_swap {a b : List Tk} (ha : SrtP a) (hb : SrtP b) : (mrg a b).map Tk.d = (mrg b a).map Tk.d := by
  have key : ∀ x y : List Tk, SrtP x → SrtP y → (∀ k, (∃ t ∈ x, t.d = k) ↔ ∃ t ∈ y, t.d = k) → x.map Tk.d = y.map Tk.d := by
    intro x y hx hy h
    have h1 : ∀ z : List Tk, SrtP z → SrtP (z.map fun t => ⟨t.d, []⟩) := fun z hz => by
      rw [SrtP, List.pairwise_map]
      exact hz
    have h2 : ∀ (z : List Tk) (t : Tk), t ∈ (z.map fun t => (⟨t.d, []⟩ : Tk)) ↔ t.xs = [] ∧ ∃ s ∈ z, s.d = t.d := fun z t => by
      rw [List.mem_map]
      constructor
      · rintro ⟨s, hs, rfl⟩
        exact ⟨rfl, s, hs, rfl⟩
      · rintro ⟨e, s, hs, e2⟩
        refine ⟨s, hs, ?_⟩
        cases t
        simp only at e e2
        rw [e, e2]
    have h3 := srtP_ext (h1 x hx) (h1 y hy) fun t => by rw [h2, h2, h]
    have h4 := congrArg (List.map Tk.d) h3
    simpa [List.map_map, Function.comp_def] using h4
  exact key _ _ (mrg_spec a b ha hb).1 (mrg_spec b a hb ha).1 fun k => by rw [mrg_digs ha hb, mrg_digs hb ha]; exact Or.comm
theorem mrg_sub {x a : List Tk} (hx : SrtP x) (ha : SrtP a) (h : ∀ t ∈ a, ∃ s ∈ x, s.d = t.d) : mrg x a = x := by
  obtain ⟨h1, h2⟩ := mrg_spec x a hx ha
  refine srtP_ext h1 hx fun t => ?_
  rw [h2]
  refine ⟨?_, .inl⟩
  rintro (h3 | ⟨h3, h4⟩)
  · exact h3
  · obtain ⟨s, hs, e⟩ := h t h3
    exact absurd e (h4 s hs)
theorem look_has {ts : List Tk} {k xs : List Int} {b : Bool} (h : lookE ts k = (xs, b)) (hk : ∃ t ∈ ts, t.d = k) : b = true := by
  rcases look_cases ts k with ⟨_, h2⟩ | ⟨t, _, _, h1⟩
  · obtain ⟨t, ht, e⟩ := hk
    exact absurd e (h2 t ht)
  · rw [h1] at h
    injection h with _ h
    exact h.symm
/-- soundpost/soundpostlaw25.PoolMerged -/
theorem spec7 (ts vs : List Tk) (ht0 : ∀ t ∈ ts, t.Ok0) (hv0 : ∀ t ∈ vs, t.Ok0) : FnSpec Tryd.prog 7 [.d (poolD ts), .d (poolD vs)] [] (bv true) [] [] := by
  refine fnSpec_of (rs := [.tmp 4]) Tryd.func7 rfl rfl (Nat.le_of_ble_eq_true rfl) (by simp [St.get]) fun E hk hn => ?_
  apply WPA.seq
  apply WPA.region
  · apply Trace.boxD 2 [] (.plain rfl) rfl rfl
    apply Trace.boxD 3 [] (.plain rfl) rfl rfl
    apply Trace.pu [] (.assign (.plain rfl))
    exact .nil _
  · exact keepOK_of hk hn rfl
  apply WPA.seq
  apply WPA.seq
  apply WPA.region
  · apply Trace.cu (callArgs0 .nil) spec9 en9
    apply Trace.pu [] (.not (.plain rfl))
    exact .nil _
  · exact keepOK_of hk hn rfl
  refine WPA.cond rfl (fun hc1 => ?_) (fun hc1 => ?_)
  · cases hc1
  · apply WPA.skip
    apply WPA.seq
    apply WPA.seq
    apply WPA.region
    · apply Trace.pu [_] (.loadAllD ty24 (.plain rfl) rfl rfl)
      apply Trace.cu (callArgs0 (.cons (.plain rfl) .nil)) (spec10 ts ht0) en10
      apply Trace.pu [] (.not (.plain rfl))
      apply Trace.pu [] (.move (.plain rfl))
      apply Trace.pg [_] rfl (.loadAllD ty24 (.plain rfl) rfl rfl)
      apply Trace.cg rfl (callArgs0 (.cons (.gd rfl (fun h => h)) .nil)) (fun h => spec10 vs hv0) en10
      apply Trace.pg [] rfl (.not (.gd rfl (fun h => h)))
      apply Trace.pu [] (.pick (.plain rfl) (.plain rfl) (.gd rfl (by simp)))
      exact .nil _
    · exact keepOK_of hk hn rfl
    refine WPA.cond rfl (fun hc2 => ?_) (fun hc2 => ?_)
    · apply WPA.seq
      apply WPA.region
      · apply Trace.pu [] (.assign (.plain rfl))
        exact .nil _
      · exact keepOK_of hk hn rfl
      apply WPA.ret
      refine ⟨.inr rfl, ⟨_, (.cons (.tmp rfl) .nil), ?_⟩, by simp [St.get]⟩
      rfl
    · have hf : fewB ts = true ∧ fewB vs = true := by
        cases h : fewB ts with
        | false => rw [h] at hc2; simp at hc2
        | true =>
          cases h2 : fewB vs with
          | false => rw [h, h2] at hc2; simp at hc2
          | true => exact ⟨rfl, rfl⟩
      obtain ⟨hf, hf2⟩ := hf
      obtain ⟨h8, hto0⟩ := fewB_ok ht0 hf
      have hts : ∀ t ∈ ts, t.Ok := fun t h => (hto0 t h).1
      obtain ⟨h82, hto2⟩ := fewB_ok hv0 hf2
      have hvs : ∀ t ∈ vs, t.Ok := fun t h => (hto2 t h).1
      obtain ⟨us, e, hM⟩ : ∃ us e, mergeE ts vs = (us, e) := ⟨_, _, rfl⟩
      obtain ⟨huo, hul⟩ := mergeE_all hts hvs hM
      obtain ⟨us2, e2, hM2⟩ : ∃ us e, mergeE vs ts = (us, e) := ⟨_, _, rfl⟩
      obtain ⟨huo2, hul2⟩ := mergeE_all hvs hts hM2
      have hcas : (e = 250 ∧ us = [] ∧ e2 = 250 ∧ us2 = []) ∨ (chk ts = true ∧ chk vs = true ∧ e = 0 ∧ us = mrg ts vs ∧ e2 = 0 ∧ us2 = mrg vs ts) := by
        cases h1 : chk ts with
        | false =>
          rw [mergeE_bad (by rw [h1]; rfl)] at hM
          rw [mergeE_bad (by rw [h1, Bool.and_false])] at hM2
          injection hM with q1 q2; injection hM2 with q3 q4
          exact .inl ⟨q2.symm, q1.symm, q4.symm, q3.symm⟩
        | true =>
          cases h2 : chk vs with
          | false =>
            rw [mergeE_bad (by rw [h2, Bool.and_false])] at hM
            rw [mergeE_bad (by rw [h2]; rfl)] at hM2
            injection hM with q1 q2; injection hM2 with q3 q4
            exact .inl ⟨q2.symm, q1.symm, q4.symm, q3.symm⟩
          | true =>
            rw [mergeE_ok h1 h2] at hM
            rw [mergeE_ok h2 h1] at hM2
            injection hM with q1 q2; injection hM2 with q3 q4
            exact .inr ⟨rfl, rfl, q2.symm, q1.symm, q4.symm, q3.symm⟩
      apply WPA.skip
      apply WPA.seq
      apply WPA.region
      · apply Trace.pu [_] (.loadAllD ty24 (.plain rfl) rfl rfl)
        apply Trace.pu [_] (.loadAllD ty24 (.plain rfl) rfl rfl)
        apply Trace.ct (callArgs0 (.cons (.plain rfl) (.cons (.plain rfl) .nil))) (mergeF hts (by omega) hvs (by omega) hM) en21
        apply Trace.pu [] (.move (.plain rfl))
        apply Trace.pu [] (.extract (.plain rfl) rfl)
        apply Trace.pu [] (.extract (.plain rfl) rfl)
        apply Trace.alloc 5 [] (.data _) zo24 (cellsAs_data _) rfl
        apply Trace.storeD ty24 (.plain rfl) (.plain rfl) rfl rfl rfl (by simp [AV.oneB, single]) (Nat.le_of_ble_eq_true rfl) rfl
        apply Trace.pu [] (.assign (.plain rfl))
        exact .nil _
      · exact keepOK_of hk hn rfl
      apply WPA.seq
      apply WPA.region
      · apply Trace.pu [_] (.loadAllD ty24 (.plain rfl) rfl rfl)
        apply Trace.pu [_] (.loadAllD ty24 (.plain rfl) rfl rfl)
        apply Trace.ct (callArgs0 (.cons (.plain rfl) (.cons (.plain rfl) .nil))) (mergeF hvs (by omega) hts (by omega) hM2) en21
        apply Trace.pu [] (.move (.plain rfl))
        apply Trace.pu [] (.extract (.plain rfl) rfl)
        apply Trace.pu [] (.extract (.plain rfl) rfl)
        apply Trace.alloc 7 [] (.data _) zo24 (cellsAs_data _) rfl
        apply Trace.storeD ty24 (.plain rfl) (.plain rfl) rfl rfl rfl (by simp [AV.oneB, single]) (Nat.le_of_ble_eq_true rfl) rfl
        apply Trace.pu [] (.assign (.plain rfl))
        exact .nil _
      · exact keepOK_of hk hn rfl
      apply WPA.seq
      apply WPA.seq
      apply WPA.region
      · apply Trace.pu [] (.move (.plain rfl))
        apply Trace.pu [] (.cmp (.plain rfl) (.plain rfl) rfl)
        apply Trace.pu [] (.move (.plain rfl))
        apply Trace.pg [] rfl (.move (.plain rfl))
        apply Trace.pg [] rfl (.cmp (.gd rfl (fun h => h)) (.plain rfl) rfl)
        apply Trace.pu [] (.pick (.plain rfl) (.plain rfl) (.gd rfl (by simp)))
        exact .nil _
      · exact keepOK_of hk hn rfl
      refine WPA.cond rfl (fun hc3 => ?_) (fun hc3 => ?_)
      · obtain ⟨rfl, rfl, rfl, rfl⟩ : e = 250 ∧ us = [] ∧ e2 = 250 ∧ us2 = [] := by
          rcases hcas with h | ⟨_, _, h1, _, h2, _⟩
          · exact h
          · rw [h1, h2] at hc3; cases hc3
        apply WPA.seq
        apply WPA.region
        · apply Trace.pu [] (.move (.plain rfl))
          apply Trace.pu [] (.move (.plain rfl))
          apply Trace.pu [] (.cmp (.plain rfl) (.plain rfl) rfl)
          apply Trace.pu [] (.move (.plain rfl))
          apply Trace.og rfl
          apply Trace.pu [] (.fieldAddr fl24_0 (.plain rfl) rfl)
          apply Trace.og rfl
          first | apply Trace.pu [_] (.loadLoc1D ty22 (.plain rfl) rfl rfl) | apply Trace.pu [_] (.loadLoc1 ty22 (.plain rfl) rfl rfl) | apply Trace.pu [] (.loadRp1 ty22 (.plain rfl) rfl) | apply Trace.pu [_] (.loadCol1 ty22 (.plain rfl) rfl rfl rfl (fun _ => by omega))
          apply Trace.og rfl
          apply Trace.pu [] (.len rfl Tryd.underlying22 (.plain rfl) rfl)
          apply Trace.og rfl
          apply Trace.pu [] (.cmp (.plain rfl) (.plain rfl) rfl)
          apply Trace.pu [] (.pick (.plain rfl) (.plain rfl) (.plain rfl))
          apply Trace.pu [] (.move (.plain rfl))
          apply Trace.og rfl
          apply Trace.pu [] (.fieldAddr fl24_0 (.plain rfl) rfl)
          apply Trace.og rfl
          first | apply Trace.pu [_] (.loadLoc1D ty22 (.plain rfl) rfl rfl) | apply Trace.pu [_] (.loadLoc1 ty22 (.plain rfl) rfl rfl) | apply Trace.pu [] (.loadRp1 ty22 (.plain rfl) rfl) | apply Trace.pu [_] (.loadCol1 ty22 (.plain rfl) rfl rfl rfl (fun _ => by omega))
          apply Trace.og rfl
          apply Trace.pu [] (.len rfl Tryd.underlying22 (.plain rfl) rfl)
          apply Trace.og rfl
          apply Trace.pu [] (.cmp (.plain rfl) (.plain rfl) rfl)
          apply Trace.pu [] (.pick (.plain rfl) (.plain rfl) (.plain rfl))
          apply Trace.pu [] (.assign (.plain rfl))
          exact .nil _
        · exact keepOK_of hk hn rfl
        apply WPA.ret
        refine ⟨.inr rfl, ⟨_, (.cons (.tmp rfl) .nil), ?_⟩, by simp [St.get]⟩
        rfl
      · obtain ⟨hCa, hCb, rfl, hus, rfl, hus2⟩ : chk ts = true ∧ chk vs = true ∧ e = 0 ∧ us = mrg ts vs ∧ e2 = 0 ∧ us2 = mrg vs ts := by
          rcases hcas with ⟨h1, _⟩ | h
          · rw [h1] at hc3; cases hc3
          · exact h
        have hSa := (chk_iff.1 hCa).1
        have hSb := (chk_iff.1 hCb).1
        have hCu : chk us = true := by rw [hus]; exact mrg_chk hCa hCb
        have hSu := (chk_iff.1 hCu).1
        have hmem := (mrg_spec ts vs hSa hSb).2
        have hdg := mrg_digs hSa hSb
        rw [← hus] at hmem hdg
        have hsw := mrg_swap hSa hSb
        rw [← hus, ← hus2] at hsw
        have hlen : us.length = us2.length := by have := congrArg List.length hsw; simpa using this
        have hdi : ∀ i, i < us.length → (us2.getD i default).d = (us.getD i default).d := fun i hi => by
          have h1 := congrArg (fun l => l[i]?) hsw
          simp only [List.getElem?_map] at h1
          rw [List.getElem?_eq_getElem hi, List.getElem?_eq_getElem (by omega)] at h1
          rw [getD_tk hi, getD_tk (by omega)]
          simpa using h1.symm
        have hck : ckE us = 0 := by unfold ckE; rw [hCu]; rfl
        have hM3 : mergeE us ts = (us, 0) := by rw [mergeE_ok hCu hCa, mrg_sub hSu hSa fun t ht => ⟨t, (hmem t).2 (.inl ht), rfl⟩]
        have hM4 : mergeE us vs = (us, 0) := by rw [mergeE_ok hCu hCb, mrg_sub hSu hSb fun t ht => (hdg t.d).2 (.inr ⟨t, ht, rfl⟩)]
        clear hM hM2 hcas
        apply WPA.skip
        apply WPA.seq
        apply WPA.seq
        apply WPA.region
        · apply Trace.pu [_] (.loadAllD ty24 (.plain rfl) rfl rfl)
          apply Trace.cu (callArgs0 (.cons (.plain rfl) .nil)) (checkF huo (by omega) hck) en19
          apply Trace.pu [] (.cmp (.plain rfl) (.plain rfl) rfl)
          apply Trace.pu [] (.move (.plain rfl))
          apply Trace.og rfl
          apply Trace.pu [] (.fieldAddr fl24_0 (.plain rfl) rfl)
          apply Trace.og rfl
          first | apply Trace.pu [_] (.loadLoc1D ty22 (.plain rfl) rfl rfl) | apply Trace.pu [_] (.loadLoc1 ty22 (.plain rfl) rfl rfl) | apply Trace.pu [] (.loadRp1 ty22 (.plain rfl) rfl) | apply Trace.pu [_] (.loadCol1 ty22 (.plain rfl) rfl rfl rfl (fun _ => by omega))
          apply Trace.og rfl
          apply Trace.pu [] (.len rfl Tryd.underlying22 (.plain rfl) rfl)
          apply Trace.og rfl
          apply Trace.pu [] (.fieldAddr fl24_0 (.plain rfl) rfl)
          apply Trace.og rfl
          first | apply Trace.pu [_] (.loadLoc1D ty22 (.plain rfl) rfl rfl) | apply Trace.pu [_] (.loadLoc1 ty22 (.plain rfl) rfl rfl) | apply Trace.pu [] (.loadRp1 ty22 (.plain rfl) rfl) | apply Trace.pu [_] (.loadCol1 ty22 (.plain rfl) rfl rfl rfl (fun _ => by omega))
          apply Trace.og rfl
          apply Trace.pu [] (.len rfl Tryd.underlying22 (.plain rfl) rfl)
          apply Trace.og rfl
          apply Trace.pu [] ((Pure.cmp (.plain rfl) (.plain rfl) rfl).to (y := bv false) (congrArg bv (by show (!decide ((us.length : Int) = (us2.length : Int))) = false; rw [hlen]; simp)))
          apply Trace.pu [] (.pick (.plain rfl) (.plain rfl) (.plain rfl))
          apply Trace.pu [] (.move (.plain rfl))
          apply Trace.og rfl
          apply Trace.pu [] (.fieldAddr fl24_0 (.plain rfl) rfl)
          apply Trace.og rfl
          first | apply Trace.pu [_] (.loadLoc1D ty22 (.plain rfl) rfl rfl) | apply Trace.pu [_] (.loadLoc1 ty22 (.plain rfl) rfl rfl) | apply Trace.pu [] (.loadRp1 ty22 (.plain rfl) rfl) | apply Trace.pu [_] (.loadCol1 ty22 (.plain rfl) rfl rfl rfl (fun _ => by omega))
          apply Trace.og rfl
          apply Trace.pu [] (.len rfl Tryd.underlying22 (.plain rfl) rfl)
          apply Trace.og rfl
          apply Trace.pu [] (.fieldAddr fl24_0 (.plain rfl) rfl)
          apply Trace.og rfl
          first | apply Trace.pu [_] (.loadLoc1D ty22 (.plain rfl) rfl rfl) | apply Trace.pu [_] (.loadLoc1 ty22 (.plain rfl) rfl rfl) | apply Trace.pu [] (.loadRp1 ty22 (.plain rfl) rfl) | apply Trace.pu [_] (.loadCol1 ty22 (.plain rfl) rfl rfl rfl (fun _ => by omega))
          apply Trace.og rfl
          apply Trace.pu [] (.len rfl Tryd.underlying22 (.plain rfl) rfl)
          apply Trace.og rfl
          apply Trace.pu [] (.fieldAddr fl24_0 (.plain rfl) rfl)
          apply Trace.og rfl
          first | apply Trace.pu [_] (.loadLoc1D ty22 (.plain rfl) rfl rfl) | apply Trace.pu [_] (.loadLoc1 ty22 (.plain rfl) rfl rfl) | apply Trace.pu [] (.loadRp1 ty22 (.plain rfl) rfl) | apply Trace.pu [_] (.loadCol1 ty22 (.plain rfl) rfl rfl rfl (fun _ => by omega))
          apply Trace.og rfl
          apply Trace.pu [] (.len rfl Tryd.underlying22 (.plain rfl) rfl)
          apply Trace.og rfl
          apply Trace.pu [] (.arith (.plain rfl) (.plain rfl) rfl (fun _ => bd64 (by omega)))
          apply Trace.og rfl
          apply Trace.pu [] ((Pure.cmp (.plain rfl) (.plain rfl) rfl).to (y := bv false) (congrArg bv (decide_eq_false (by omega))))
          apply Trace.pu [] (.pick (.plain rfl) (.plain rfl) (.plain rfl))
          exact .nil _
        · exact keepOK_of hk hn rfl
        refine WPA.cond rfl (fun hc4 => ?_) (fun hc4 => ?_)
        · cases hc4
        · apply WPA.skip
          apply WPA.seq
          apply WPA.seq
          apply WPA.region
          · apply Trace.pu [] (.assign (.plain rfl))
            exact .nil _
          · exact keepOK_of hk hn rfl
          apply WPA.block
          refine WPA.loop (σ := Nat) (fun i => [(sl 2, .av (.loc 2 0)), (sl 3, .av (.loc 3 0)), (sl 5, .av (.loc 5 0)), (sl 7, .av (.loc 7 0)), (sl 9, .av (iv .i64 (i))), (bk 2, .blk (.data [tksD ts])), (bk 3, .blk (.data [tksD vs])), (bk 5, .blk (.data [tksD us])), (bk 7, .blk (.data [tksD us2]))]) (fun i => i ≤ us.length) (fun i => us.length - i) 0
            (St.le_cons rfl (St.le_cons rfl (St.le_cons rfl (St.le_cons rfl (St.le_cons rfl (St.le_cons rfl (St.le_cons rfl (St.le_cons rfl (St.le_cons rfl (St.le_nil _)))))))))) (Nat.zero_le _) fun i hi => ?_
          apply WPA.seq
          apply WPA.seq
          apply WPA.region
          · apply Trace.pu [] (.move (.plain rfl))
            apply Trace.pu [] (.fieldAddr fl24_0 (.plain rfl) rfl)
            first | apply Trace.pu [_] (.loadLoc1D ty22 (.plain rfl) rfl rfl) | apply Trace.pu [_] (.loadLoc1 ty22 (.plain rfl) rfl rfl) | apply Trace.pu [] (.loadRp1 ty22 (.plain rfl) rfl) | apply Trace.pu [_] (.loadCol1 ty22 (.plain rfl) rfl rfl rfl (fun _ => by omega))
            apply Trace.pu [] (.len rfl Tryd.underlying22 (.plain rfl) rfl)
            apply Trace.pu [] (.cmp (.plain rfl) (.plain rfl) rfl)
            exact .nil _
          · exact keepOK_of hk hn rfl
          refine WPA.cond rfl (fun hc5 => ?_) (fun hc5 => ?_)
          · have hlt : i < us.length := by simp at hc5; omega
            obtain ⟨t, hte⟩ : ∃ t, us.getD i default = t := ⟨_, rfl⟩
            have htm : t ∈ us := by rw [← hte]; exact getD_mem' hlt
            have hto : t.Ok := huo _ htm
            have hdl := hto.len
            have hdb := hto.byt
            have hd2 := (hdi i hlt).trans (congrArg Tk.d hte)
            obtain ⟨x1, b1, hL1⟩ : ∃ x b, lookE ts t.d = (x, b) := ⟨_, _, rfl⟩
            obtain ⟨x2, b2, hL2⟩ : ∃ x b, lookE vs t.d = (x, b) := ⟨_, _, rfl⟩
            have hor : b1 = true ∨ b2 = true := by
              rcases (hdg t.d).1 ⟨t, htm, rfl⟩ with h | h
              · exact .inl (look_has hL1 h)
              · exact .inr (look_has hL2 h)
            apply WPA.skip
            apply WPA.seq
            apply WPA.block
            apply WPA.seq
            apply WPA.draw mixed
            · apply Trace.pu [_] (.loadAllD ty24 (.plain rfl) rfl rfl)
              apply Trace.pu [] (.fieldAddr fl24_0 (.plain rfl) rfl)
              first | apply Trace.pu [_] (.loadLoc1D ty22 (.plain rfl) rfl rfl) | apply Trace.pu [_] (.loadLoc1 ty22 (.plain rfl) rfl rfl) | apply Trace.pu [] (.loadRp1 ty22 (.plain rfl) rfl) | apply Trace.pu [_] (.loadCol1 ty22 (.plain rfl) rfl rfl rfl (fun _ => by omega))
              apply Trace.pu [] (.move (.plain rfl))
              first | apply Trace.pu [] (.indexRows el22 (.plain rfl) (.plain rfl) (fun _ => ⟨by omega, by omega⟩)) | apply Trace.pu [] (.indexOwn el22 (.plain rfl) (.plain rfl) (fun _ => ⟨by omega, by omega⟩)) | apply Trace.pu [] (.indexSl el22 (.plain rfl) (.plain rfl) (fun _ => ⟨by omega, by omega⟩)) | apply Trace.pu [] (.indexSa el22 (.plain rfl) (.plain rfl) (fun _ => ⟨by omega, by omega⟩))
              apply Trace.pu [] (.fieldAddr fl49_0 (.plain rfl) rfl)
              apply Trace.pu [] ((Pure.loadRp ty27 (.plain rfl) (fun _ => by rw [Int.toNat_natCast, List.drop_zero]; have := tk_len huo (i := i) (by omega); exact Nat.le_trans (by decide) this)).to (y := .d (byD t.d)) (by rw [Int.toNat_natCast]; exact (row_d huo (by omega)).trans (by rw [hte])))
              apply Trace.ct (callArgs0 (.cons (.plain rfl) (.cons (.plain rfl) .nil))) (lookF hts (by omega) hdl hdb hL1) en15
              apply Trace.pu [] (.move (.plain rfl))
              apply Trace.pu [] (.extract (.plain rfl) rfl)
              apply Trace.pu [] (.extract (.plain rfl) rfl)
              apply Trace.pu [] (.assign (.plain rfl))
              apply Trace.pu [] (.assign (.plain rfl))
              exact .nil _
            · rfl
            · exact keepOK_of hk hn rfl
            apply WPA.seq
            apply WPA.draw mixed
            · apply Trace.pu [_] (.loadAllD ty24 (.plain rfl) rfl rfl)
              apply Trace.pu [] (.fieldAddr fl24_0 (.plain rfl) rfl)
              first | apply Trace.pu [_] (.loadLoc1D ty22 (.plain rfl) rfl rfl) | apply Trace.pu [_] (.loadLoc1 ty22 (.plain rfl) rfl rfl) | apply Trace.pu [] (.loadRp1 ty22 (.plain rfl) rfl) | apply Trace.pu [_] (.loadCol1 ty22 (.plain rfl) rfl rfl rfl (fun _ => by omega))
              apply Trace.pu [] (.move (.plain rfl))
              first | apply Trace.pu [] (.indexRows el22 (.plain rfl) (.plain rfl) (fun _ => ⟨by omega, by omega⟩)) | apply Trace.pu [] (.indexOwn el22 (.plain rfl) (.plain rfl) (fun _ => ⟨by omega, by omega⟩)) | apply Trace.pu [] (.indexSl el22 (.plain rfl) (.plain rfl) (fun _ => ⟨by omega, by omega⟩)) | apply Trace.pu [] (.indexSa el22 (.plain rfl) (.plain rfl) (fun _ => ⟨by omega, by omega⟩))
              apply Trace.pu [] (.fieldAddr fl49_0 (.plain rfl) rfl)
              apply Trace.pu [] ((Pure.loadRp ty27 (.plain rfl) (fun _ => by rw [Int.toNat_natCast, List.drop_zero]; have := tk_len huo (i := i) (by omega); exact Nat.le_trans (by decide) this)).to (y := .d (byD t.d)) (by rw [Int.toNat_natCast]; exact (row_d huo (by omega)).trans (by rw [hte])))
              apply Trace.ct (callArgs0 (.cons (.plain rfl) (.cons (.plain rfl) .nil))) (lookF hvs (by omega) hdl hdb hL2) en15
              apply Trace.pu [] (.move (.plain rfl))
              apply Trace.pu [] (.extract (.plain rfl) rfl)
              apply Trace.pu [] (.extract (.plain rfl) rfl)
              apply Trace.pu [] (.assign (.plain rfl))
              apply Trace.pu [] (.assign (.plain rfl))
              exact .nil _
            · rfl
            · exact keepOK_of hk hn rfl
            apply WPA.seq
            apply WPA.draw mixed
            · apply Trace.pu [] (.fieldAddr fl24_0 (.plain rfl) rfl)
              first | apply Trace.pu [_] (.loadLoc1D ty22 (.plain rfl) rfl rfl) | apply Trace.pu [_] (.loadLoc1 ty22 (.plain rfl) rfl rfl) | apply Trace.pu [] (.loadRp1 ty22 (.plain rfl) rfl) | apply Trace.pu [_] (.loadCol1 ty22 (.plain rfl) rfl rfl rfl (fun _ => by omega))
              apply Trace.pu [] (.move (.plain rfl))
              first | apply Trace.pu [] (.indexRows el22 (.plain rfl) (.plain rfl) (fun _ => ⟨by omega, by omega⟩)) | apply Trace.pu [] (.indexOwn el22 (.plain rfl) (.plain rfl) (fun _ => ⟨by omega, by omega⟩)) | apply Trace.pu [] (.indexSl el22 (.plain rfl) (.plain rfl) (fun _ => ⟨by omega, by omega⟩)) | apply Trace.pu [] (.indexSa el22 (.plain rfl) (.plain rfl) (fun _ => ⟨by omega, by omega⟩))
              apply Trace.pu [] (.fieldAddr fl49_0 (.plain rfl) rfl)
              apply Trace.pu [] ((Pure.loadRp ty27 (.plain rfl) (fun _ => by rw [Int.toNat_natCast, List.drop_zero]; have := tk_len huo (i := i) (by omega); exact Nat.le_trans (by decide) this)).to (y := .d (byD t.d)) (by rw [Int.toNat_natCast]; exact (row_d huo (by omega)).trans (by rw [hte])))
              apply Trace.pu [] (.fieldAddr fl24_0 (.plain rfl) rfl)
              first | apply Trace.pu [_] (.loadLoc1D ty22 (.plain rfl) rfl rfl) | apply Trace.pu [_] (.loadLoc1 ty22 (.plain rfl) rfl rfl) | apply Trace.pu [] (.loadRp1 ty22 (.plain rfl) rfl) | apply Trace.pu [_] (.loadCol1 ty22 (.plain rfl) rfl rfl rfl (fun _ => by omega))
              apply Trace.pu [] (.move (.plain rfl))
              apply Trace.pu [] (.indexRows el22 (.plain rfl) (.plain rfl) (fun _ => ⟨by omega, by omega⟩))
              apply Trace.pu [] (.fieldAddr fl49_0 (.plain rfl) rfl)
              apply Trace.pu [] ((Pure.loadRp ty27 (.plain rfl) (fun _ => by rw [Int.toNat_natCast, List.drop_zero]; have := tk_len huo2 (i := i) (by omega); exact Nat.le_trans (by decide) this)).to (y := .d (byD t.d)) (by rw [Int.toNat_natCast]; exact (row_d huo2 (by omega)).trans (by rw [hd2])))
              apply Trace.pu [] ((Pure.ane ba27 (.plain rfl) (.plain rfl) (fun _ => hdl) (fun _ => hdl)).to (y := bv false) (congrArg bv (by simp)))
              apply Trace.pu [] (.move (.plain rfl))
              apply Trace.pg [] rfl (.move (.plain rfl))
              apply Trace.pg [] rfl (.not (.gd rfl (fun h => h)))
              apply Trace.pg [] rfl (.move (.gd rfl (fun h => h)))
              apply Trace.pg [] rfl (.move (.plain rfl))
              apply Trace.pg [] rfl (.not (.gd rfl (fun h => h)))
              apply Trace.pg [] rfl (.pick (.gd rfl (fun h => h)) (.gd rfl (by simp)) (.plain rfl))
              apply Trace.pu [] (.pick (.plain rfl) (.plain rfl) (.gd rfl (by simp)))
              exact .nil _
            · rfl
            · exact keepOK_of hk hn rfl
            refine WPA.cond rfl (fun hc6 => ?_) (fun hc6 => ?_)
            · rcases hor with h | h <;> (rw [h] at hc6; cases b1 <;> cases b2 <;> simp at hc6 h)
            · apply WPA.skip
              apply WPA.region
              · apply Trace.pu [] (.move (.plain rfl))
                apply Trace.pu [] (.arith (.plain rfl) (.plain rfl) rfl (fun _ => bd64 (by omega)))
                apply Trace.pu [] (.assign (.plain rfl))
                exact .nil _
              · exact keepOK_of hk hn rfl
              exact ⟨i + 1, by omega, by omega, St.le_cons rfl (St.le_cons rfl (St.le_cons rfl (St.le_cons rfl (St.le_cons (iv_eq (by omega)) (St.le_cons rfl (St.le_cons rfl (St.le_cons rfl (St.le_cons rfl (St.le_nil _)))))))))⟩
          · apply WPA.exit
            apply WPA.seq
            apply WPA.seq
            apply WPA.region
            · apply Trace.pu [] (.assign (.plain rfl))
              exact .nil _
            · exact keepOK_of hk hn rfl
            apply WPA.block
            refine WPA.loop (σ := Nat) (fun i => [(sl 2, .av (.loc 2 0)), (sl 3, .av (.loc 3 0)), (sl 5, .av (.loc 5 0)), (sl 7, .av (.loc 7 0)), (sl 14, .av (iv .i64 (i))), (bk 2, .blk (.data [tksD ts])), (bk 3, .blk (.data [tksD vs])), (bk 5, .blk (.data [tksD us])), (bk 7, .blk (.data [tksD us2]))]) (fun i => i ≤ ts.length) (fun i => ts.length - i) 0
              (St.le_cons rfl (St.le_cons rfl (St.le_cons rfl (St.le_cons rfl (St.le_cons rfl (St.le_cons rfl (St.le_cons rfl (St.le_cons rfl (St.le_cons rfl (St.le_nil _)))))))))) (Nat.zero_le _) fun i hi => ?_
            apply WPA.seq
            apply WPA.seq
            apply WPA.region
            · apply Trace.pu [] (.move (.plain rfl))
              apply Trace.pu [] (.fieldAddr fl24_0 (.plain rfl) rfl)
              first | apply Trace.pu [_] (.loadLoc1D ty22 (.plain rfl) rfl rfl) | apply Trace.pu [_] (.loadLoc1 ty22 (.plain rfl) rfl rfl) | apply Trace.pu [] (.loadRp1 ty22 (.plain rfl) rfl) | apply Trace.pu [_] (.loadCol1 ty22 (.plain rfl) rfl rfl rfl (fun _ => by omega))
              apply Trace.pu [] (.len rfl Tryd.underlying22 (.plain rfl) rfl)
              apply Trace.pu [] (.cmp (.plain rfl) (.plain rfl) rfl)
              exact .nil _
            · exact keepOK_of hk hn rfl
            refine WPA.cond rfl (fun hc7 => ?_) (fun hc7 => ?_)
            · have hlt : i < ts.length := by simp at hc7; omega
              obtain ⟨t, hte⟩ : ∃ t, ts.getD i default = t := ⟨_, rfl⟩
              have htm : t ∈ ts := by rw [← hte]; exact getD_mem' hlt
              have hto : t.Ok := hts _ htm
              have hdl := hto.len
              have hdb := hto.byt
              have hfw := hto.few
              have hL1 := look_mem hSu ((hmem t).2 (.inl htm))
              apply WPA.skip
              apply WPA.seq
              apply WPA.block
              apply WPA.seq
              apply WPA.draw mixed
              · apply Trace.pu [_] (.loadAllD ty24 (.plain rfl) rfl rfl)
                apply Trace.pu [] (.fieldAddr fl24_0 (.plain rfl) rfl)
                first | apply Trace.pu [_] (.loadLoc1D ty22 (.plain rfl) rfl rfl) | apply Trace.pu [_] (.loadLoc1 ty22 (.plain rfl) rfl rfl) | apply Trace.pu [] (.loadRp1 ty22 (.plain rfl) rfl) | apply Trace.pu [_] (.loadCol1 ty22 (.plain rfl) rfl rfl rfl (fun _ => by omega))
                apply Trace.pu [] (.move (.plain rfl))
                first | apply Trace.pu [] (.indexRows el22 (.plain rfl) (.plain rfl) (fun _ => ⟨by omega, by omega⟩)) | apply Trace.pu [] (.indexOwn el22 (.plain rfl) (.plain rfl) (fun _ => ⟨by omega, by omega⟩)) | apply Trace.pu [] (.indexSl el22 (.plain rfl) (.plain rfl) (fun _ => ⟨by omega, by omega⟩)) | apply Trace.pu [] (.indexSa el22 (.plain rfl) (.plain rfl) (fun _ => ⟨by omega, by omega⟩))
                apply Trace.pu [] (.fieldAddr fl49_0 (.plain rfl) rfl)
                apply Trace.pu [] ((Pure.loadRp ty27 (.plain rfl) (fun _ => by rw [Int.toNat_natCast, List.drop_zero]; have := tk_len hts (i := i) (by omega); exact Nat.le_trans (by decide) this)).to (y := .d (byD t.d)) (by rw [Int.toNat_natCast]; exact (row_d hts (by omega)).trans (by rw [hte])))
                apply Trace.ct (callArgs0 (.cons (.plain rfl) (.cons (.plain rfl) .nil))) (lookF huo (by omega) hdl hdb hL1) en15
                apply Trace.pu [] (.move (.plain rfl))
                apply Trace.pu [] (.extract (.plain rfl) rfl)
                apply Trace.pu [] (.extract (.plain rfl) rfl)
                apply Trace.pu [] (.assign (.plain rfl))
                apply Trace.pu [] (.assign (.plain rfl))
                exact .nil _
              · rfl
              · exact keepOK_of hk hn rfl
              apply WPA.seq
              apply WPA.region
              · apply Trace.pu [] (.move (.plain rfl))
                apply Trace.pu [] (.not (.plain rfl))
                apply Trace.pu [] (.move (.plain rfl))
                apply Trace.og rfl
                apply Trace.pu [] (.move (.plain rfl))
                apply Trace.og rfl
                apply Trace.pu [] (.fieldAddr fl24_0 (.plain rfl) rfl)
                apply Trace.og rfl
                first | apply Trace.pu [_] (.loadLoc1D ty22 (.plain rfl) rfl rfl) | apply Trace.pu [_] (.loadLoc1 ty22 (.plain rfl) rfl rfl) | apply Trace.pu [] (.loadRp1 ty22 (.plain rfl) rfl) | apply Trace.pu [_] (.loadCol1 ty22 (.plain rfl) rfl rfl rfl (fun _ => by omega))
                apply Trace.og rfl
                apply Trace.pu [] (.move (.plain rfl))
                apply Trace.og rfl
                first | apply Trace.pu [] (.indexRows el22 (.plain rfl) (.plain rfl) (fun _ => ⟨by omega, by omega⟩)) | apply Trace.pu [] (.indexOwn el22 (.plain rfl) (.plain rfl) (fun _ => ⟨by omega, by omega⟩)) | apply Trace.pu [] (.indexSl el22 (.plain rfl) (.plain rfl) (fun _ => ⟨by omega, by omega⟩)) | apply Trace.pu [] (.indexSa el22 (.plain rfl) (.plain rfl) (fun _ => ⟨by omega, by omega⟩))
                apply Trace.og rfl
                apply Trace.pu [] (.fieldAddr fl49_1 (.plain rfl) rfl)
                apply Trace.og rfl
                apply Trace.pu [] (.loadRp1 ty25 (.plain rfl) (r := intsD t.xs) (by rw [Int.toNat_natCast, ← hte]; exact row_x hts hlt))
                apply Trace.og rfl
                apply Trace.cu (callArgs0 (.cons (.plain rfl) (.cons (.plain rfl) .nil))) (intsT hfw hfw (decide_eq_true rfl)) en18
                apply Trace.og rfl
                apply Trace.pu [] (.not (.plain rfl))
                apply Trace.pu [] (.pick (.plain rfl) (.plain rfl) (.plain rfl))
                exact .nil _
              · exact keepOK_of hk hn rfl
              refine WPA.cond rfl (fun hc8 => ?_) (fun hc8 => ?_)
              · cases hc8
              · apply WPA.skip
                apply WPA.region
                · apply Trace.pu [] (.move (.plain rfl))
                  apply Trace.pu [] (.arith (.plain rfl) (.plain rfl) rfl (fun _ => bd64 (by omega)))
                  apply Trace.pu [] (.assign (.plain rfl))
                  exact .nil _
                · exact keepOK_of hk hn rfl
                exact ⟨i + 1, by omega, by omega, St.le_cons rfl (St.le_cons rfl (St.le_cons rfl (St.le_cons rfl (St.le_cons (iv_eq (by omega)) (St.le_cons rfl (St.le_cons rfl (St.le_cons rfl (St.le_cons rfl (St.le_nil _)))))))))⟩
            · apply WPA.exit
              apply WPA.seq
              apply WPA.seq
              apply WPA.region
              · apply Trace.pu [] (.assign (.plain rfl))
                exact .nil _
              · exact keepOK_of hk hn rfl
              apply WPA.block
              refine WPA.loop (σ := Nat) (fun i => [(sl 2, .av (.loc 2 0)), (sl 3, .av (.loc 3 0)), (sl 5, .av (.loc 5 0)), (sl 7, .av (.loc 7 0)), (sl 17, .av (iv .i64 (i))), (bk 2, .blk (.data [tksD ts])), (bk 3, .blk (.data [tksD vs])), (bk 5, .blk (.data [tksD us])), (bk 7, .blk (.data [tksD us2]))]) (fun i => i ≤ vs.length) (fun i => vs.length - i) 0
                (St.le_cons rfl (St.le_cons rfl (St.le_cons rfl (St.le_cons rfl (St.le_cons rfl (St.le_cons rfl (St.le_cons rfl (St.le_cons rfl (St.le_cons rfl (St.le_nil _)))))))))) (Nat.zero_le _) fun i hi => ?_
              apply WPA.seq
              apply WPA.seq
              apply WPA.region
              · apply Trace.pu [] (.move (.plain rfl))
                apply Trace.pu [] (.fieldAddr fl24_0 (.plain rfl) rfl)
                first | apply Trace.pu [_] (.loadLoc1D ty22 (.plain rfl) rfl rfl) | apply Trace.pu [_] (.loadLoc1 ty22 (.plain rfl) rfl rfl) | apply Trace.pu [] (.loadRp1 ty22 (.plain rfl) rfl) | apply Trace.pu [_] (.loadCol1 ty22 (.plain rfl) rfl rfl rfl (fun _ => by omega))
                apply Trace.pu [] (.len rfl Tryd.underlying22 (.plain rfl) rfl)
                apply Trace.pu [] (.cmp (.plain rfl) (.plain rfl) rfl)
                exact .nil _
              · exact keepOK_of hk hn rfl
              refine WPA.cond rfl (fun hc9 => ?_) (fun hc9 => ?_)
              · have hlt : i < vs.length := by simp at hc9; omega
                obtain ⟨t, hte⟩ : ∃ t, vs.getD i default = t := ⟨_, rfl⟩
                have htm : t ∈ vs := by rw [← hte]; exact getD_mem' hlt
                have hto : t.Ok := hvs _ htm
                have hdl := hto.len
                have hdb := hto.byt
                obtain ⟨x1, b1, hL1⟩ : ∃ x b, lookE us t.d = (x, b) := ⟨_, _, rfl⟩
                obtain rfl := look_has hL1 ((hdg t.d).2 (.inr ⟨t, htm, rfl⟩))
                apply WPA.skip
                apply WPA.seq
                apply WPA.block
                apply WPA.seq
                apply WPA.draw mixed
                · apply Trace.pu [_] (.loadAllD ty24 (.plain rfl) rfl rfl)
                  apply Trace.pu [] (.fieldAddr fl24_0 (.plain rfl) rfl)
                  first | apply Trace.pu [_] (.loadLoc1D ty22 (.plain rfl) rfl rfl) | apply Trace.pu [_] (.loadLoc1 ty22 (.plain rfl) rfl rfl) | apply Trace.pu [] (.loadRp1 ty22 (.plain rfl) rfl) | apply Trace.pu [_] (.loadCol1 ty22 (.plain rfl) rfl rfl rfl (fun _ => by omega))
                  apply Trace.pu [] (.move (.plain rfl))
                  first | apply Trace.pu [] (.indexRows el22 (.plain rfl) (.plain rfl) (fun _ => ⟨by omega, by omega⟩)) | apply Trace.pu [] (.indexOwn el22 (.plain rfl) (.plain rfl) (fun _ => ⟨by omega, by omega⟩)) | apply Trace.pu [] (.indexSl el22 (.plain rfl) (.plain rfl) (fun _ => ⟨by omega, by omega⟩)) | apply Trace.pu [] (.indexSa el22 (.plain rfl) (.plain rfl) (fun _ => ⟨by omega, by omega⟩))
                  apply Trace.pu [] (.fieldAddr fl49_0 (.plain rfl) rfl)
                  apply Trace.pu [] ((Pure.loadRp ty27 (.plain rfl) (fun _ => by rw [Int.toNat_natCast, List.drop_zero]; have := tk_len hvs (i := i) (by omega); exact Nat.le_trans (by decide) this)).to (y := .d (byD t.d)) (by rw [Int.toNat_natCast]; exact (row_d hvs (by omega)).trans (by rw [hte])))
                  apply Trace.ct (callArgs0 (.cons (.plain rfl) (.cons (.plain rfl) .nil))) (lookF huo (by omega) hdl hdb hL1) en15
                  apply Trace.pu [] (.move (.plain rfl))
                  apply Trace.pu [] (.extract (.plain rfl) rfl)
                  apply Trace.pu [] (.extract (.plain rfl) rfl)
                  apply Trace.pu [] (.assign (.plain rfl))
                  apply Trace.pu [] (.assign (.plain rfl))
                  exact .nil _
                · rfl
                · exact keepOK_of hk hn rfl
                apply WPA.seq
                apply WPA.region
                · apply Trace.pu [] (.move (.plain rfl))
                  apply Trace.pu [] (.not (.plain rfl))
                  exact .nil _
                · exact keepOK_of hk hn rfl
                refine WPA.cond rfl (fun hc10 => ?_) (fun hc10 => ?_)
                · cases hc10
                · apply WPA.skip
                  apply WPA.region
                  · apply Trace.pu [] (.move (.plain rfl))
                    apply Trace.pu [] (.arith (.plain rfl) (.plain rfl) rfl (fun _ => bd64 (by omega)))
                    apply Trace.pu [] (.assign (.plain rfl))
                    exact .nil _
                  · exact keepOK_of hk hn rfl
                  exact ⟨i + 1, by omega, by omega, St.le_cons rfl (St.le_cons rfl (St.le_cons rfl (St.le_cons rfl (St.le_cons (iv_eq (by omega)) (St.le_cons rfl (St.le_cons rfl (St.le_cons rfl (St.le_cons rfl (St.le_nil _)))))))))⟩
              · apply WPA.exit
                apply WPA.seq
                apply WPA.region
                · apply Trace.pu [_] (.loadAllD ty24 (.plain rfl) rfl rfl)
                  apply Trace.pu [_] (.loadAllD ty24 (.plain rfl) rfl rfl)
                  apply Trace.ct (callArgs0 (.cons (.plain rfl) (.cons (.plain rfl) .nil))) (mergeF huo (by omega) hts (by omega) hM3) en21
                  apply Trace.pu [] (.move (.plain rfl))
                  apply Trace.pu [] (.extract (.plain rfl) rfl)
                  apply Trace.pu [] (.extract (.plain rfl) rfl)
                  apply Trace.alloc 20 [] (.data _) zo24 (cellsAs_data _) rfl
                  apply Trace.storeD ty24 (.plain rfl) (.plain rfl) rfl rfl rfl (by simp [AV.oneB, single]) (Nat.le_of_ble_eq_true rfl) rfl
                  apply Trace.pu [] (.assign (.plain rfl))
                  exact .nil _
                · exact keepOK_of hk hn rfl
                apply WPA.seq
                apply WPA.region
                · apply Trace.pu [_] (.loadAllD ty24 (.plain rfl) rfl rfl)
                  apply Trace.pu [_] (.loadAllD ty24 (.plain rfl) rfl rfl)
                  apply Trace.ct (callArgs0 (.cons (.plain rfl) (.cons (.plain rfl) .nil))) (mergeF huo (by omega) hvs (by omega) hM4) en21
                  apply Trace.pu [] (.move (.plain rfl))
                  apply Trace.pu [] (.extract (.plain rfl) rfl)
                  apply Trace.pu [] (.extract (.plain rfl) rfl)
                  apply Trace.alloc 22 [] (.data _) zo24 (cellsAs_data _) rfl
                  apply Trace.storeD ty24 (.plain rfl) (.plain rfl) rfl rfl rfl (by simp [AV.oneB, single]) (Nat.le_of_ble_eq_true rfl) rfl
                  apply Trace.pu [] (.assign (.plain rfl))
                  exact .nil _
                · exact keepOK_of hk hn rfl
                apply WPA.seq
                apply WPA.region
                · apply Trace.pu [] (.move (.plain rfl))
                  apply Trace.pu [] (.cmp (.plain rfl) (.plain rfl) rfl)
                  apply Trace.pu [] (.move (.plain rfl))
                  apply Trace.og rfl
                  apply Trace.pu [] (.move (.plain rfl))
                  apply Trace.og rfl
                  apply Trace.pu [] (.cmp (.plain rfl) (.plain rfl) rfl)
                  apply Trace.pu [] (.pick (.plain rfl) (.plain rfl) (.plain rfl))
                  apply Trace.pu [] (.move (.plain rfl))
                  apply Trace.og rfl
                  apply Trace.pu [_] (.loadAllD ty24 (.plain rfl) rfl rfl)
                  apply Trace.og rfl
                  apply Trace.pu [_] (.loadAllD ty24 (.plain rfl) rfl rfl)
                  apply Trace.og rfl
                  apply Trace.cu (callArgs0 (.cons (.plain rfl) (.cons (.plain rfl) .nil))) (sameT huo (by omega) huo (by omega) (decide_eq_true rfl)) en17
                  apply Trace.pu [] (.pick (.plain rfl) (.plain rfl) (.plain rfl))
                  apply Trace.pu [] (.move (.plain rfl))
                  apply Trace.og rfl
                  apply Trace.pu [_] (.loadAllD ty24 (.plain rfl) rfl rfl)
                  apply Trace.og rfl
                  apply Trace.pu [_] (.loadAllD ty24 (.plain rfl) rfl rfl)
                  apply Trace.og rfl
                  apply Trace.cu (callArgs0 (.cons (.plain rfl) (.cons (.plain rfl) .nil))) (sameT huo (by omega) huo (by omega) (decide_eq_true rfl)) en17
                  apply Trace.pu [] (.pick (.plain rfl) (.plain rfl) (.plain rfl))
                  apply Trace.pu [] (.assign (.plain rfl))
                  exact .nil _
                · exact keepOK_of hk hn rfl
                apply WPA.ret
                refine ⟨.inr rfl, ⟨_, (.cons (.tmp rfl) .nil), ?_⟩, by simp [St.get]⟩
                rfl

end Go.Proofs.YtmdfamnnnoieaaaDoor

