/- The specification of codec: well-formed, depth, Check, parts; making values. -/
import Derived.Test.YtlccnbnnlfbfjaaCodec2
import Derived.Test.YtlccnbnnlfbfjaaCodecRef
namespace Go.Proofs.Ytlccnbnnlfbfjaa
open Go
set_option linter.unusedVariables false
set_option linter.unusedSimpArgs false
set_option maxRecDepth 10000

/-- soundpost/soundpostref01.Int -/
theorem raw23 (n : Int) : FnSpec Try.prog 23 [iv .i64 n] [] (.d (.agg [.v (.int .i64 1), .v (.int .i64 n), .v (.string ⟨#[]⟩), .v (.slice none 0 0)])) [] [] := by
  refine fnSpec_of (rs := [.cell 2 24]) Try.func23 rfl rfl (Nat.le_of_ble_eq_true rfl) (by simp [St.get]) fun E hk hn => ?_
  apply WPA.seq
  apply WPA.region
  · apply Trace.alloc 2 [] (.data _) zo24 (cellsAs_data _) rfl
    exact .nil _
  · exact keepOK_of hk hn rfl
  apply WPA.seq
  apply WPA.region
  · apply Trace.pu [] (.move (.plain rfl))
    apply Trace.pu [] (.build zo24 pl24 (.cons (.plain rfl) rfl rfl (Nat.le_of_ble_eq_true rfl) (.cons (.plain rfl) rfl rfl (Nat.le_of_ble_eq_true rfl) (.nil _ _))) rfl)
    first | apply Trace.storeD ty24 (.plain rfl) (.plain rfl) rfl rfl (by simp [Val.cells_length]) (by first | exact Val.cells_one _ | simp [AV.oneB, single]) (by simp [Val.cells_length]) (spliceL_all (by simp [Val.cells_length])) | apply Trace.storeD ty24 (.plain rfl) (.plain rfl) rfl rfl (by simp [Val.cells_length]) (by first | exact Val.cells_one _ | simp [AV.oneB, single]) (by simp [Val.cells_length]) rfl | apply Trace.storeDA ty24 (.plain rfl) (.plain rfl) rfl rfl (by simp [Val.cells_length]) (by simp [AV.oneB, single]) (by simp [Val.cells_length]) rfl | apply Trace.storeLoc ty24 (.plain rfl) (.plain rfl) rfl rfl (by simp [Val.cells_length]) (by simp [AV.oneB, single]) (by simp) rfl | apply Trace.storeRow ty24 (.plain rfl) (.plain rfl) rfl rfl rfl rfl (by decide) (by simp [AV.oneB, single]) rfl (by omega)
    exact .nil _
  · exact keepOK_of hk hn rfl
  apply WPA.ret
  refine ⟨.inr rfl, ⟨_, (.cons (.cellD rfl rfl ty24 rfl) .nil), ?_⟩, by simp [St.get]⟩
  rfl
theorem spec23 (n : Int) : FnSpec Try.prog 23 [iv .i64 n] [] (Val.mk 1 n ⟨#[]⟩ []).av [] [] := (raw23 n).resLe (den_aggLe (.same (.same (.same (.rows .nil)))))
/-- soundpost/soundpostref01.Text -/
theorem raw24 (s : ByteArray) : FnSpec Try.prog 24 [sv s] [] (.d (.agg [.v (.int .i64 2), .v (.int .i64 0), .v (.string s), .v (.slice none 0 0)])) [] [] := by
  refine fnSpec_of (rs := [.cell 2 24]) Try.func24 rfl rfl (Nat.le_of_ble_eq_true rfl) (by simp [St.get]) fun E hk hn => ?_
  apply WPA.seq
  apply WPA.region
  · apply Trace.alloc 2 [] (.data _) zo24 (cellsAs_data _) rfl
    exact .nil _
  · exact keepOK_of hk hn rfl
  apply WPA.seq
  apply WPA.region
  · apply Trace.pu [] (.move (.plain rfl))
    apply Trace.pu [] (.build zo24 pl24 (.cons (.plain rfl) rfl rfl (Nat.le_of_ble_eq_true rfl) (.cons (.plain rfl) rfl rfl (Nat.le_of_ble_eq_true rfl) (.nil _ _))) rfl)
    first | apply Trace.storeD ty24 (.plain rfl) (.plain rfl) rfl rfl (by simp [Val.cells_length]) (by first | exact Val.cells_one _ | simp [AV.oneB, single]) (by simp [Val.cells_length]) (spliceL_all (by simp [Val.cells_length])) | apply Trace.storeD ty24 (.plain rfl) (.plain rfl) rfl rfl (by simp [Val.cells_length]) (by first | exact Val.cells_one _ | simp [AV.oneB, single]) (by simp [Val.cells_length]) rfl | apply Trace.storeDA ty24 (.plain rfl) (.plain rfl) rfl rfl (by simp [Val.cells_length]) (by simp [AV.oneB, single]) (by simp [Val.cells_length]) rfl | apply Trace.storeLoc ty24 (.plain rfl) (.plain rfl) rfl rfl (by simp [Val.cells_length]) (by simp [AV.oneB, single]) (by simp) rfl | apply Trace.storeRow ty24 (.plain rfl) (.plain rfl) rfl rfl rfl rfl (by decide) (by simp [AV.oneB, single]) rfl (by omega)
    exact .nil _
  · exact keepOK_of hk hn rfl
  apply WPA.ret
  refine ⟨.inr rfl, ⟨_, (.cons (.cellD rfl rfl ty24 rfl) .nil), ?_⟩, by simp [St.get]⟩
  rfl
theorem spec24 (s : ByteArray) : FnSpec Try.prog 24 [sv s] [] (Val.mk 2 0 s []).av [] [] := (raw24 s).resLe (den_aggLe (.same (.same (.same (.rows .nil)))))
/-- soundpost/soundpostref01.List -/
theorem spec22 (l : List Val) : FnSpec Try.prog 22 [.d (.rows 4 l.length (Val.row l))] [] ((Val.mk 3 0 ⟨#[]⟩ l).av) [] [] := by
  refine fnSpec_of (rs := [.cell 2 24]) Try.func22 rfl rfl (Nat.le_of_ble_eq_true rfl) (by simp [St.get]) fun E hk hn => ?_
  apply WPA.seq
  apply WPA.region
  · apply Trace.alloc 2 [] (.data _) zo24 (cellsAs_data _) rfl
    exact .nil _
  · exact keepOK_of hk hn rfl
  apply WPA.seq
  apply WPA.region
  · apply Trace.pu [] (.move (.plain rfl))
    apply Trace.pu [] (.build zo24 pl24 (.cons (.plain rfl) rfl rfl (Nat.le_of_ble_eq_true rfl) (.cons (.plain rfl) rfl rfl (Nat.le_of_ble_eq_true rfl) (.nil _ _))) rfl)
    first | apply Trace.storeD ty24 (.plain rfl) (.plain rfl) rfl rfl (by simp [Val.cells_length]) (by first | exact Val.cells_one _ | simp [AV.oneB, single]) (by simp [Val.cells_length]) (spliceL_all (by simp [Val.cells_length])) | apply Trace.storeD ty24 (.plain rfl) (.plain rfl) rfl rfl (by simp [Val.cells_length]) (by first | exact Val.cells_one _ | simp [AV.oneB, single]) (by simp [Val.cells_length]) rfl | apply Trace.storeDA ty24 (.plain rfl) (.plain rfl) rfl rfl (by simp [Val.cells_length]) (by simp [AV.oneB, single]) (by simp [Val.cells_length]) rfl | apply Trace.storeLoc ty24 (.plain rfl) (.plain rfl) rfl rfl (by simp [Val.cells_length]) (by simp [AV.oneB, single]) (by simp) rfl | apply Trace.storeRow ty24 (.plain rfl) (.plain rfl) rfl rfl rfl rfl (by decide) (by simp [AV.oneB, single]) rfl (by omega)
    exact .nil _
  · exact keepOK_of hk hn rfl
  apply WPA.ret
  refine ⟨.inr rfl, ⟨_, (.cons (.cellD rfl rfl ty24 rfl) .nil), ?_⟩, by simp [St.get]⟩
  rfl
/-- soundpost/soundpostref01.Formed -/
theorem spec29 (v : Val) (hz : v.Sz) : FnSpec Try.prog 29 [v.av] [] (bv v.formed) [] [] := by
  induction hz
  rename_i k n s l h1 h2 h3 h4 hm ih
  refine fnSpec_of (rs := [.tmp 2]) Try.func29 rfl rfl (Nat.le_of_ble_eq_true rfl) (by simp [St.get]) fun E hk hn => ?_
  apply WPA.seq
  apply WPA.region
  · first | apply Trace.boxD 1 [] (.plain rfl) rfl rfl | apply Trace.box 1 [] (.plain rfl) rfl rfl rfl
    apply Trace.pu [] (.assign (.plain rfl))
    exact .nil _
  · exact keepOK_of hk hn rfl
  apply WPA.seq
  apply WPA.seq
  apply WPA.region
  · apply Trace.pu [] (.fieldAddr fl24_0 (.plain rfl) rfl)
    first | apply Trace.pu [_] (.loadLoc1D ty3 (.plain rfl) rfl rfl) | apply Trace.pu [_] (.loadLoc1 ty3 (.plain rfl) rfl rfl) | apply Trace.pu [] (.loadRp1 ty3 (.plain rfl) rfl) | apply Trace.pu [_] (.loadCol1 ty3 (.plain rfl) rfl rfl rfl (fun _ => by omega))
    exact .nil _
  · exact keepOK_of hk hn rfl
  apply WPA.block
  apply WPA.seq
  apply WPA.region
  · apply Trace.pu [] (.cmp (.plain rfl) (.plain rfl) rfl)
    apply Trace.pu [] (.assign (.plain rfl))
    exact .nil _
  · exact keepOK_of hk hn rfl
  refine WPA.cond rfl (fun hc1 => ?_) (fun hc1 => ?_)
  · have hk1 : k = 1 := by simpa using hc1
    apply WPA.seq
    apply WPA.region
    · apply Trace.pu [] (.fieldAddr fl24_2 (.plain rfl) rfl)
      first | apply Trace.pu [_] (.loadLoc1D ty9 (.plain rfl) rfl rfl) | apply Trace.pu [_] (.loadLoc1 ty9 (.plain rfl) rfl rfl) | apply Trace.pu [] (.loadRp1 ty9 (.plain rfl) rfl) | apply Trace.pu [_] (.loadCol1 ty9 (.plain rfl) rfl rfl rfl (fun _ => by omega))
      apply Trace.pu [] (.seq (.plain rfl) (.plain rfl))
      apply Trace.pu [] (.move (.plain rfl))
      apply Trace.pg [] rfl (.fieldAddr fl24_3 (.plain rfl) rfl)
      first | apply Trace.pg [_] rfl (.loadLoc1D ty22 (.gd rfl (fun h => h)) rfl rfl) | apply Trace.pg [_] rfl (.loadLoc1 ty22 (.gd rfl (fun h => h)) rfl rfl) | apply Trace.pg [] rfl (.loadRp1 ty22 (.gd rfl (fun h => h)) rfl) | apply Trace.pg [_] rfl (.loadCol1 ty22 (.gd rfl (fun h => h)) rfl rfl rfl (fun _ => by omega))
      apply Trace.pg [] rfl (.len rfl Try.underlying22 (.gd rfl (fun h => h)) rfl)
      apply Trace.pg [] rfl (.cmp (.gd rfl (fun h => h)) (.plain rfl) rfl)
      apply Trace.pu [] (.pick (.plain rfl) (.gd rfl (by simp)) (.plain rfl))
      apply Trace.pu [] (.assign (.plain rfl))
      exact .nil _
    · exact keepOK_of hk hn rfl
    apply WPA.ret
    refine ⟨.inr rfl, ⟨_, (.cons (.tmp rfl) .nil), ?_⟩, by simp [St.get]⟩
    rw [Val.formed_eq]; simp [hk1, resOf, D.ofV, Bool.cond_eq_ite]
  · have hk1 : ¬ k = 1 := by simpa using hc1
    apply WPA.seq
    apply WPA.region
    · apply Trace.pu [] (.cmp (.plain rfl) (.plain rfl) rfl)
      apply Trace.pu [] (.assign (.plain rfl))
      exact .nil _
    · exact keepOK_of hk hn rfl
    refine WPA.cond rfl (fun hc2 => ?_) (fun hc2 => ?_)
    · have hk2 : k = 2 := by simpa using hc2
      apply WPA.seq
      apply WPA.region
      · apply Trace.pu [] (.fieldAddr fl24_1 (.plain rfl) rfl)
        first | apply Trace.pu [_] (.loadLoc1D ty3 (.plain rfl) rfl rfl) | apply Trace.pu [_] (.loadLoc1 ty3 (.plain rfl) rfl rfl) | apply Trace.pu [] (.loadRp1 ty3 (.plain rfl) rfl) | apply Trace.pu [_] (.loadCol1 ty3 (.plain rfl) rfl rfl rfl (fun _ => by omega))
        apply Trace.pu [] (.cmp (.plain rfl) (.plain rfl) rfl)
        apply Trace.pu [] (.move (.plain rfl))
        apply Trace.pg [] rfl (.fieldAddr fl24_3 (.plain rfl) rfl)
        first | apply Trace.pg [_] rfl (.loadLoc1D ty22 (.gd rfl (fun h => h)) rfl rfl) | apply Trace.pg [_] rfl (.loadLoc1 ty22 (.gd rfl (fun h => h)) rfl rfl) | apply Trace.pg [] rfl (.loadRp1 ty22 (.gd rfl (fun h => h)) rfl) | apply Trace.pg [_] rfl (.loadCol1 ty22 (.gd rfl (fun h => h)) rfl rfl rfl (fun _ => by omega))
        apply Trace.pg [] rfl (.len rfl Try.underlying22 (.gd rfl (fun h => h)) rfl)
        apply Trace.pg [] rfl (.cmp (.gd rfl (fun h => h)) (.plain rfl) rfl)
        apply Trace.pu [] (.pick (.plain rfl) (.gd rfl (by simp)) (.plain rfl))
        apply Trace.pu [] (.assign (.plain rfl))
        exact .nil _
      · exact keepOK_of hk hn rfl
      apply WPA.ret
      refine ⟨.inr rfl, ⟨_, (.cons (.tmp rfl) .nil), ?_⟩, by simp [St.get]⟩
      rw [Val.formed_eq]; simp [hk1, hk2, resOf, D.ofV, Bool.cond_eq_ite]
    · have hk2 : ¬ k = 2 := by simpa using hc2
      apply WPA.seq
      apply WPA.region
      · apply Trace.pu [] (.cmp (.plain rfl) (.plain rfl) rfl)
        apply Trace.pu [] (.assign (.plain rfl))
        exact .nil _
      · exact keepOK_of hk hn rfl
      refine WPA.cond rfl (fun hc3 => ?_) (fun hc3 => ?_)
      · have hk3 : k = 3 := by simpa using hc3
        apply WPA.seq
        apply WPA.seq
        apply WPA.region
        · apply Trace.pu [] (.assign (.plain rfl))
          exact .nil _
        · exact keepOK_of hk hn rfl
        apply WPA.block
        refine WPA.loop (σ := Nat) (fun i => [(sl 1, .av (.loc 1 0)), (sl 3, .av (iv .i64 i)), (bk 1, .blk (.data (Val.mk k n s l).cells))]) (fun i => i ≤ l.length ∧ Val.formeds (l.take i) = true) (fun i => l.length - i) 0
          (St.le_cons rfl (St.le_cons rfl (St.le_cons rfl (St.le_nil _)))) ⟨Nat.zero_le _, rfl⟩ fun i hi => ?_
        apply WPA.seq
        apply WPA.seq
        apply WPA.region
        · apply Trace.pu [] (.move (.plain rfl))
          apply Trace.pu [] (.fieldAddr fl24_3 (.plain rfl) rfl)
          first | apply Trace.pu [_] (.loadLoc1D ty22 (.plain rfl) rfl rfl) | apply Trace.pu [_] (.loadLoc1 ty22 (.plain rfl) rfl rfl) | apply Trace.pu [] (.loadRp1 ty22 (.plain rfl) rfl) | apply Trace.pu [_] (.loadCol1 ty22 (.plain rfl) rfl rfl rfl (fun _ => by omega))
          apply Trace.pu [] (.len rfl Try.underlying22 (.plain rfl) rfl)
          apply Trace.pu [] (.cmp (.plain rfl) (.plain rfl) rfl)
          exact .nil _
        · exact keepOK_of hk hn rfl
        refine WPA.cond rfl (fun hc4 => ?_) (fun hc4 => ?_)
        · have hlt : i < l.length := by simpa using hc4
          apply WPA.skip
          apply WPA.seq
          apply WPA.block
          apply WPA.seq
          apply WPA.region
          · apply Trace.pu [] (.fieldAddr fl24_3 (.plain rfl) rfl)
            first | apply Trace.pu [_] (.loadLoc1D ty22 (.plain rfl) rfl rfl) | apply Trace.pu [_] (.loadLoc1 ty22 (.plain rfl) rfl rfl) | apply Trace.pu [] (.loadRp1 ty22 (.plain rfl) rfl) | apply Trace.pu [_] (.loadCol1 ty22 (.plain rfl) rfl rfl rfl (fun _ => by omega))
            apply Trace.pu [] (.move (.plain rfl))
            first | apply Trace.pu [] (.indexRows el22 (.plain rfl) (.plain rfl) (fun _ => ⟨by omega, by omega⟩)) | apply Trace.pu [] (.indexOwn el22 (.plain rfl) (.plain rfl) (fun _ => ⟨by omega, by omega⟩)) | apply Trace.pu [] (.indexSl el22 (.plain rfl) (.plain rfl) (fun _ => ⟨by omega, by omega⟩))
            apply Trace.pu [] ((Pure.loadRp ty24 (.plain rfl) (fun _ => by rw [Val.row_length l _ (by omega)]; exact Nat.le_refl 4)).to (y := (l[i]).av) (by show AV.d (.agg ((Val.row l ((i : Int)).toNat).take 4)) = _; rw [Val.row_take l _ (by omega)]; simp))
            apply Trace.cu (callArgs0 (.cons (.plain rfl) .nil)) (ih l[i] (List.getElem_mem hlt)) en29
            apply Trace.pu [] (.not (.plain rfl))
            exact .nil _
          · exact keepOK_of hk hn rfl
          refine WPA.cond rfl (fun hc5 => ?_) (fun hc5 => ?_)
          · have hb : l[i].formed = false := by simpa using hc5
            apply WPA.seq
            apply WPA.region
            · apply Trace.pu [] (.assign (.plain rfl))
              exact .nil _
            · exact keepOK_of hk hn rfl
            apply WPA.ret
            refine ⟨.inr rfl, ⟨_, (.cons (.tmp rfl) .nil), ?_⟩, by simp [St.get]⟩
            have : Val.formeds l = false := by
              cases h : Val.formeds l with
              | false => rfl
              | true => rw [Val.formeds_mem h _ (List.getElem_mem hlt)] at hb; cases hb
            rw [Val.formed_eq, this]; simp [hk1, hk2, resOf, D.ofV]
          · have hb : l[i].formed = true := by simpa using hc5
            apply WPA.skip
            apply WPA.region
            · apply Trace.pu [] (.move (.plain rfl))
              apply Trace.pu [] (.arith (.plain rfl) (.plain rfl) rfl (fun _ => bd64 (by omega)))
              apply Trace.pu [] (.assign (.plain rfl))
              exact .nil _
            · exact keepOK_of hk hn rfl
            exact ⟨i + 1, ⟨by omega, by rw [take_succ' l i hlt, Val.formeds_append]; simp [Val.formeds, hb, hi.2]⟩, by omega, St.le_cons rfl (St.le_cons (iv_eq (by omega)) (St.le_cons rfl (St.le_nil _)))⟩
        · have hil : i = l.length := by
            have h1 := hi.1
            have : ¬ ((i : Int) < l.length) := by simpa using hc4
            omega
          have hfl : Val.formeds l = true := by have := hi.2; rwa [hil, List.take_length] at this
          apply WPA.exit
          apply WPA.seq
          apply WPA.region
          · apply Trace.pu [] (.fieldAddr fl24_1 (.plain rfl) rfl)
            first | apply Trace.pu [_] (.loadLoc1D ty3 (.plain rfl) rfl rfl) | apply Trace.pu [_] (.loadLoc1 ty3 (.plain rfl) rfl rfl) | apply Trace.pu [] (.loadRp1 ty3 (.plain rfl) rfl) | apply Trace.pu [_] (.loadCol1 ty3 (.plain rfl) rfl rfl rfl (fun _ => by omega))
            apply Trace.pu [] (.cmp (.plain rfl) (.plain rfl) rfl)
            apply Trace.pu [] (.move (.plain rfl))
            apply Trace.pg [] rfl (.fieldAddr fl24_2 (.plain rfl) rfl)
            first | apply Trace.pg [_] rfl (.loadLoc1D ty9 (.gd rfl (fun h => h)) rfl rfl) | apply Trace.pg [_] rfl (.loadLoc1 ty9 (.gd rfl (fun h => h)) rfl rfl) | apply Trace.pg [] rfl (.loadRp1 ty9 (.gd rfl (fun h => h)) rfl) | apply Trace.pg [_] rfl (.loadCol1 ty9 (.gd rfl (fun h => h)) rfl rfl rfl (fun _ => by omega))
            apply Trace.pg [] rfl (.seq (.gd rfl (fun h => h)) (.plain rfl))
            apply Trace.pu [] (.pick (.plain rfl) (.gd rfl (by simp)) (.plain rfl))
            apply Trace.pu [] (.assign (.plain rfl))
            exact .nil _
          · exact keepOK_of hk hn rfl
          apply WPA.ret
          refine ⟨.inr rfl, ⟨_, (.cons (.tmp rfl) .nil), ?_⟩, by simp [St.get]⟩
          rw [Val.formed_eq, hfl]; simp [hk1, hk2, hk3, resOf, D.ofV, Bool.cond_eq_ite]
      · have hk3 : ¬ k = 3 := by simpa using hc3
        apply WPA.skip
        apply WPA.seq
        apply WPA.region
        · apply Trace.pu [] (.assign (.plain rfl))
          exact .nil _
        · exact keepOK_of hk hn rfl
        apply WPA.ret
        refine ⟨.inr rfl, ⟨_, (.cons (.tmp rfl) .nil), ?_⟩, by simp [St.get]⟩
        rw [Val.formed_eq]; simp [hk1, hk2, hk3, resOf, D.ofV]
/-- soundpost/soundpostref01.Depth -/
theorem spec30 (v : Val) (hz : v.Sz) (hd : v.depth ≤ 4611686018427387904) : FnSpec Try.prog 30 [v.av] [] (iv .i64 v.depth) [] [] := by
  revert hd
  induction hz
  rename_i k n s l h1 h2 h3 h4 hm ih
  intro hd
  refine fnSpec_of (rs := [.tmp 2]) Try.func30 rfl rfl (Nat.le_of_ble_eq_true rfl) (by simp [St.get]) fun E hk hn => ?_
  apply WPA.seq
  apply WPA.region
  · first | apply Trace.boxD 1 [] (.plain rfl) rfl rfl | apply Trace.box 1 [] (.plain rfl) rfl rfl rfl
    apply Trace.pu [] (.assign (.plain rfl))
    exact .nil _
  · exact keepOK_of hk hn rfl
  apply WPA.seq
  apply WPA.seq
  apply WPA.region
  · apply Trace.pu [] (.fieldAddr fl24_0 (.plain rfl) rfl)
    first | apply Trace.pu [_] (.loadLoc1D ty3 (.plain rfl) rfl rfl) | apply Trace.pu [_] (.loadLoc1 ty3 (.plain rfl) rfl rfl) | apply Trace.pu [] (.loadRp1 ty3 (.plain rfl) rfl) | apply Trace.pu [_] (.loadCol1 ty3 (.plain rfl) rfl rfl rfl (fun _ => by omega))
    apply Trace.pu [] (.cmp (.plain rfl) (.plain rfl) rfl)
    exact .nil _
  · exact keepOK_of hk hn rfl
  refine WPA.cond rfl (fun hc1 => ?_) (fun hc1 => ?_)
  · have hk3 : k ≠ 3 := by simpa using hc1
    apply WPA.seq
    apply WPA.region
    · apply Trace.pu [] (.assign (.plain rfl))
      exact .nil _
    · exact keepOK_of hk hn rfl
    apply WPA.ret
    refine ⟨.inr rfl, ⟨_, (.cons (.tmp rfl) .nil), ?_⟩, by simp [St.get]⟩
    simp [Val.depth, hk3, resOf, D.ofV]
  · have hk3 : k = 3 := by simpa using hc1
    have hdl : Val.depths l + 1 ≤ 4611686018427387904 := by
      simp only [Val.depth, hk3, if_true] at hd; omega
    apply WPA.skip
    apply WPA.seq
    apply WPA.region
    · apply Trace.pu [] (.assign (.plain rfl))
      exact .nil _
    · exact keepOK_of hk hn rfl
    apply WPA.seq
    apply WPA.seq
    apply WPA.region
    · apply Trace.pu [] (.assign (.plain rfl))
      exact .nil _
    · exact keepOK_of hk hn rfl
    apply WPA.block
    refine WPA.loop (σ := Nat) (fun i => [(sl 1, .av (.loc 1 0)), (sl 3, .av (iv .i64 (Val.depths (l.take i)))), (sl 4, .av (iv .i64 i)), (bk 1, .blk (.data (Val.mk k n s l).cells))]) (fun i => i ≤ l.length) (fun i => l.length - i) 0
      (St.le_cons rfl (St.le_cons rfl (St.le_cons rfl (St.le_cons rfl (St.le_nil _))))) (Nat.zero_le _) fun i hi => ?_
    have hdt := Val.depths_take l i
    apply WPA.seq
    apply WPA.seq
    apply WPA.region
    · apply Trace.pu [] (.move (.plain rfl))
      apply Trace.pu [] (.fieldAddr fl24_3 (.plain rfl) rfl)
      first | apply Trace.pu [_] (.loadLoc1D ty22 (.plain rfl) rfl rfl) | apply Trace.pu [_] (.loadLoc1 ty22 (.plain rfl) rfl rfl) | apply Trace.pu [] (.loadRp1 ty22 (.plain rfl) rfl) | apply Trace.pu [_] (.loadCol1 ty22 (.plain rfl) rfl rfl rfl (fun _ => by omega))
      apply Trace.pu [] (.len rfl Try.underlying22 (.plain rfl) rfl)
      apply Trace.pu [] (.cmp (.plain rfl) (.plain rfl) rfl)
      exact .nil _
    · exact keepOK_of hk hn rfl
    refine WPA.cond rfl (fun hc2 => ?_) (fun hc2 => ?_)
    · have hlt : i < l.length := by simpa using hc2
      apply WPA.skip
      apply WPA.seq
      apply WPA.block
      apply WPA.region
      · apply Trace.pu [] (.move (.plain rfl))
        apply Trace.pu [] (.fieldAddr fl24_3 (.plain rfl) rfl)
        first | apply Trace.pu [_] (.loadLoc1D ty22 (.plain rfl) rfl rfl) | apply Trace.pu [_] (.loadLoc1 ty22 (.plain rfl) rfl rfl) | apply Trace.pu [] (.loadRp1 ty22 (.plain rfl) rfl) | apply Trace.pu [_] (.loadCol1 ty22 (.plain rfl) rfl rfl rfl (fun _ => by omega))
        apply Trace.pu [] (.move (.plain rfl))
        first | apply Trace.pu [] (.indexRows el22 (.plain rfl) (.plain rfl) (fun _ => ⟨by omega, by omega⟩)) | apply Trace.pu [] (.indexOwn el22 (.plain rfl) (.plain rfl) (fun _ => ⟨by omega, by omega⟩)) | apply Trace.pu [] (.indexSl el22 (.plain rfl) (.plain rfl) (fun _ => ⟨by omega, by omega⟩))
        apply Trace.pu [] ((Pure.loadRp ty24 (.plain rfl) (fun _ => by rw [Val.row_length l _ (by omega)]; exact Nat.le_refl 4)).to (y := (l[i]).av) (by show AV.d (.agg ((Val.row l ((i : Int)).toNat).take 4)) = _; rw [Val.row_take l _ (by omega)]; simp))
        apply Trace.cu (callArgs0 (.cons (.plain rfl) .nil)) (ih l[i] (List.getElem_mem hlt) (by have := Val.depth_mem l[i] (List.getElem_mem hlt); omega)) en30
        apply Trace.pu [] (.max2 (.plain rfl) (.plain rfl))
        apply Trace.pu [] (.assign (.plain rfl))
        exact .nil _
      · exact keepOK_of hk hn rfl
      apply WPA.region
      · apply Trace.pu [] (.move (.plain rfl))
        apply Trace.pu [] (.arith (.plain rfl) (.plain rfl) rfl (fun _ => bd64 (by omega)))
        apply Trace.pu [] (.assign (.plain rfl))
        exact .nil _
      · exact keepOK_of hk hn rfl
      have e1 : Val.depths (l.take (i + 1)) = max (Val.depths (l.take i)) l[i].depth := by rw [take_succ' l i hlt, Val.depths_append]; simp [Val.depths]
      exact ⟨i + 1, by omega, by omega, St.le_cons rfl (St.le_cons (iv_eq (by rw [e1]; omega)) (St.le_cons (iv_eq (by omega)) (St.le_cons rfl (St.le_nil _))))⟩
    · have hil : i = l.length := by
        have : ¬ ((i : Int) < l.length) := by simpa using hc2
        omega
      have e2 : Val.depths (l.take i) = Val.depths l := by rw [hil, List.take_length]
      apply WPA.exit
      apply WPA.seq
      apply WPA.region
      · apply Trace.pu [] (.move (.plain rfl))
        apply Trace.pu [] (.arith (.plain rfl) (.plain rfl) rfl (fun _ => bd64 (by omega)))
        apply Trace.pu [] (.assign (.plain rfl))
        exact .nil _
      · exact keepOK_of hk hn rfl
      apply WPA.ret
      refine ⟨.inr rfl, ⟨_, (.cons (.tmp rfl) .nil), ?_⟩, by simp [St.get]⟩
      rw [e2]; simp [Val.depth, hk3, resOf, D.ofV]; omega
/-- soundpost/soundpostref01.Check -/
theorem spec17 (v : Val) (hz : v.Sz) (hd : v.depth ≤ 4611686018427387904) : FnSpec Try.prog 17 [v.av] [] (.d (.v (.int .i64 (v.check)))) [] [] := by
  refine fnSpec_of (rs := [.tmp 2]) Try.func17 rfl rfl (Nat.le_of_ble_eq_true rfl) (by simp [St.get]) fun E hk hn => ?_
  apply WPA.seq
  apply WPA.region
  · first | apply Trace.boxD 1 [] (.plain rfl) rfl rfl | apply Trace.box 1 [] (.plain rfl) rfl rfl rfl
    apply Trace.pu [] (.assign (.plain rfl))
    exact .nil _
  · exact keepOK_of hk hn rfl
  apply WPA.seq
  apply WPA.seq
  apply WPA.region
  · first | apply Trace.pu [_] (.loadAllD ty24 (.plain rfl) rfl (by simp [Val.cells_length])) | apply Trace.pu [_] (.loadLocD ty24 (.plain rfl) rfl (fun _ => by simp [Val.cells_length])) | apply Trace.pu [_] (.loadLoc ty24 (.plain rfl) rfl (fun _ => Nat.le_of_ble_eq_true rfl)) | apply Trace.pu [] (.loadRp ty24 (.plain rfl) (fun _ => by decide)) | apply Trace.pu [_] (.loadCol ty24 (.plain rfl) rfl rfl (fun _ => by decide) (fun _ => by omega)) | apply Trace.pu [_] (.loadArr ty24 (.plain rfl) rfl)
    apply Trace.cu (callArgs0 (.cons (.plain rfl) .nil)) (spec29 v hz) en29
    apply Trace.pu [] (.not (.plain rfl))
    exact .nil _
  · exact keepOK_of hk hn rfl
  refine WPA.cond rfl (fun hc1 => ?_) (fun hc1 => ?_)
  · apply WPA.seq
    apply WPA.region
    · apply Trace.pu [] (.assign (.plain rfl))
      exact .nil _
    · exact keepOK_of hk hn rfl
    apply WPA.ret
    refine ⟨.inr rfl, ⟨_, (.cons (.tmp rfl) .nil), ?_⟩, by simp [St.get]⟩
    have : v.formed = false := by simpa using hc1
    simp [Val.check, this, resOf, D.ofV]
  · have hf : v.formed = true := by simpa using hc1
    apply WPA.skip
    apply WPA.seq
    apply WPA.seq
    apply WPA.region
    · first | apply Trace.pu [_] (.loadAllD ty24 (.plain rfl) rfl (by simp [Val.cells_length])) | apply Trace.pu [_] (.loadLocD ty24 (.plain rfl) rfl (fun _ => by simp [Val.cells_length])) | apply Trace.pu [_] (.loadLoc ty24 (.plain rfl) rfl (fun _ => Nat.le_of_ble_eq_true rfl)) | apply Trace.pu [] (.loadRp ty24 (.plain rfl) (fun _ => by decide)) | apply Trace.pu [_] (.loadCol ty24 (.plain rfl) rfl rfl (fun _ => by decide) (fun _ => by omega)) | apply Trace.pu [_] (.loadArr ty24 (.plain rfl) rfl)
      apply Trace.cu (callArgs0 (.cons (.plain rfl) .nil)) (spec30 v hz hd) en30
      apply Trace.pu [] (.cmp (.plain rfl) (.plain rfl) rfl)
      exact .nil _
    · exact keepOK_of hk hn rfl
    refine WPA.cond rfl (fun hc2 => ?_) (fun hc2 => ?_)
    · apply WPA.seq
      apply WPA.region
      · apply Trace.pu [] (.assign (.plain rfl))
        exact .nil _
      · exact keepOK_of hk hn rfl
      apply WPA.ret
      refine ⟨.inr rfl, ⟨_, (.cons (.tmp rfl) .nil), ?_⟩, by simp [St.get]⟩
      have h2 : 16 < v.depth := by simp at hc2; omega
      simp [Val.check, hf, h2, resOf, D.ofV]
    · apply WPA.skip
      apply WPA.seq
      apply WPA.region
      · apply Trace.pu [] (.assign (.plain rfl))
        exact .nil _
      · exact keepOK_of hk hn rfl
      apply WPA.ret
      refine ⟨.inr rfl, ⟨_, (.cons (.tmp rfl) .nil), ?_⟩, by simp [St.get]⟩
      have h2 : ¬ 16 < v.depth := by simp at hc2; omega
      simp [Val.check, hf, h2, resOf, D.ofV]
/-- soundpost/soundpostref01.count -/
theorem spec36 (v : Val) (hz : v.Sz) (d : Int) (hd : -1 ≤ d ∧ d ≤ 1000000000) : FnSpec Try.prog 36 [v.av, iv .i64 d] [] (iv .i64 (v.count d)) [] [] := by
  revert hd d
  induction hz
  rename_i k n s l h1 h2 h3 h4 hm ih
  intro d hd
  refine fnSpec_of (rs := [.tmp 4]) Try.func36 rfl rfl (Nat.le_of_ble_eq_true rfl) (by simp [St.get]) fun E hk hn => ?_
  apply WPA.seq
  apply WPA.region
  · first | apply Trace.boxD 2 [] (.plain rfl) rfl rfl | apply Trace.box 2 [] (.plain rfl) rfl rfl rfl
    apply Trace.pu [] (.assign (.plain rfl))
    exact .nil _
  · exact keepOK_of hk hn rfl
  apply WPA.seq
  have e200 : ((s.size : Nat) : Int).tdiv 200 = ((s.size / 200 : Nat) : Int) := by rw [Int.tdiv_eq_ediv_of_nonneg (by omega)]; omega
  have hcb := Val.count_bound (.mk k n s l) (.mk k n s l h1 h2 h3 h4 hm) d hd.1
  apply WPA.region
  · apply Trace.pu [] (.fieldAddr fl24_2 (.plain rfl) rfl)
    first | apply Trace.pu [_] (.loadLoc1D ty9 (.plain rfl) rfl rfl) | apply Trace.pu [_] (.loadLoc1 ty9 (.plain rfl) rfl rfl) | apply Trace.pu [] (.loadRp1 ty9 (.plain rfl) rfl) | apply Trace.pu [_] (.loadCol1 ty9 (.plain rfl) rfl rfl rfl (fun _ => by omega))
    apply Trace.pu [] (.lenS rfl Try.underlying9 (.plain rfl))
    apply Trace.pu [] ((Pure.quo (.plain rfl) (.plain rfl) (fun _ => by decide)).to (y := iv .i64 ((s.size / 200 : Nat) : Int)) (by rw [e200, wrap_i64_id (by omega)]))
    apply Trace.pu [] (.arith (.plain rfl) (.plain rfl) rfl (fun _ => bd64 (by omega)))
    apply Trace.pu [] (.assign (.plain rfl))
    exact .nil _
  · exact keepOK_of hk hn rfl
  apply WPA.seq
  apply WPA.seq
  apply WPA.region
  · apply Trace.pu [] (.move (.plain rfl))
    apply Trace.pu [] (.cmp (.plain rfl) (.plain rfl) rfl)
    apply Trace.pu [] (.move (.plain rfl))
    apply Trace.pg [] rfl (.fieldAddr fl24_3 (.plain rfl) rfl)
    first | apply Trace.pg [_] rfl (.loadLoc1D ty22 (.gd rfl (fun h => h)) rfl rfl) | apply Trace.pg [_] rfl (.loadLoc1 ty22 (.gd rfl (fun h => h)) rfl rfl) | apply Trace.pg [] rfl (.loadRp1 ty22 (.gd rfl (fun h => h)) rfl) | apply Trace.pg [_] rfl (.loadCol1 ty22 (.gd rfl (fun h => h)) rfl rfl rfl (fun _ => by omega))
    apply Trace.pg [] rfl (.len rfl Try.underlying22 (.gd rfl (fun h => h)) rfl)
    apply Trace.pg [] rfl (.cmp (.gd rfl (fun h => h)) (.plain rfl) rfl)
    apply Trace.pu [] (.pick (.plain rfl) (.plain rfl) (.gd rfl (by simp)))
    exact .nil _
  · exact keepOK_of hk hn rfl
  refine WPA.cond rfl (fun hc1 => ?_) (fun hc1 => ?_)
  · have hc : d < 0 ∨ 150 < l.length := by simp at hc1; omega
    apply WPA.seq
    apply WPA.region
    · apply Trace.pu [] (.assign (.plain rfl))
      exact .nil _
    · exact keepOK_of hk hn rfl
    apply WPA.ret
    refine ⟨.inr rfl, ⟨_, (.cons (.tmp rfl) .nil), ?_⟩, by simp [St.get]⟩
    simp [Val.count, hc, resOf, D.ofV]
  · have hc : ¬ (d < 0 ∨ 150 < l.length) := by simp at hc1; omega
    have hval : (Val.mk k n s l).count d = Val.counts l (d - 1) (1 + ((s.size / 200 : Nat) : Int)) := by simp only [Val.count, if_neg hc]
    apply WPA.skip
    apply WPA.seq
    apply WPA.seq
    apply WPA.region
    · apply Trace.pu [] (.assign (.plain rfl))
      exact .nil _
    · exact keepOK_of hk hn rfl
    apply WPA.block
    refine WPA.loop (σ := Nat × Int) (fun i => [(sl 1, .av (iv .i64 d)), (sl 2, .av (.loc 2 0)), (sl 5, .av (iv .i64 i.2)), (sl 6, .av (iv .i64 i.1)), (bk 2, .blk (.data (Val.mk k n s l).cells))]) (fun i => i.1 ≤ l.length ∧ 0 ≤ i.2 ∧ Val.counts (l.drop i.1) (d - 1) i.2 = (Val.mk k n s l).count d ∧ i.2 ≤ 1000000000000 + 1000 * (d + 2)) (fun i => l.length - i.1) (0, 1 + ((s.size / 200 : Nat) : Int))
      (St.le_cons rfl (St.le_cons rfl (St.le_cons rfl (St.le_cons rfl (St.le_cons rfl (St.le_nil _)))))) ⟨Nat.zero_le _, by omega, by rw [hval]; rfl, by omega⟩ fun i hi => ?_
    obtain ⟨i, z⟩ := i
    obtain ⟨hi1, hi2, hi3, hi4⟩ := hi
    simp only at hi1 hi2 hi3 hi4
    dsimp only
    apply WPA.seq
    apply WPA.seq
    apply WPA.region
    · apply Trace.pu [] (.move (.plain rfl))
      apply Trace.pu [] (.fieldAddr fl24_3 (.plain rfl) rfl)
      first | apply Trace.pu [_] (.loadLoc1D ty22 (.plain rfl) rfl rfl) | apply Trace.pu [_] (.loadLoc1 ty22 (.plain rfl) rfl rfl) | apply Trace.pu [] (.loadRp1 ty22 (.plain rfl) rfl) | apply Trace.pu [_] (.loadCol1 ty22 (.plain rfl) rfl rfl rfl (fun _ => by omega))
      apply Trace.pu [] (.len rfl Try.underlying22 (.plain rfl) rfl)
      apply Trace.pu [] (.cmp (.plain rfl) (.plain rfl) rfl)
      apply Trace.pu [] (.move (.plain rfl))
      apply Trace.pg [] rfl (.move (.plain rfl))
      apply Trace.pg [] rfl (.cmp (.gd rfl (fun h => h)) (.plain rfl) rfl)
      apply Trace.pu [] (.pick (.plain rfl) (.gd rfl (by simp)) (.plain rfl))
      exact .nil _
    · exact keepOK_of hk hn rfl
    refine WPA.cond rfl (fun hc2 => ?_) (fun hc2 => ?_)
    · have hlz : i < l.length ∧ z ≤ 1000 := by simp at hc2; exact hc2
      have hlt := hlz.1
      have hcx := Val.count_bound l[i] (hm _ (List.getElem_mem hlt)) (d - 1) (by omega)
      have hst : Val.counts (l.drop (i + 1)) (d - 1) (z + l[i].count (d - 1)) = (Val.mk k n s l).count d := by
        rw [← hi3, List.drop_eq_getElem_cons hlt, Val.counts, if_pos hlz.2]
      apply WPA.skip
      apply WPA.seq
      apply WPA.block
      apply WPA.region
      · apply Trace.pu [] (.move (.plain rfl))
        apply Trace.pu [] (.fieldAddr fl24_3 (.plain rfl) rfl)
        first | apply Trace.pu [_] (.loadLoc1D ty22 (.plain rfl) rfl rfl) | apply Trace.pu [_] (.loadLoc1 ty22 (.plain rfl) rfl rfl) | apply Trace.pu [] (.loadRp1 ty22 (.plain rfl) rfl) | apply Trace.pu [_] (.loadCol1 ty22 (.plain rfl) rfl rfl rfl (fun _ => by omega))
        apply Trace.pu [] (.move (.plain rfl))
        first | apply Trace.pu [] (.indexRows el22 (.plain rfl) (.plain rfl) (fun _ => ⟨by omega, by omega⟩)) | apply Trace.pu [] (.indexOwn el22 (.plain rfl) (.plain rfl) (fun _ => ⟨by omega, by omega⟩)) | apply Trace.pu [] (.indexSl el22 (.plain rfl) (.plain rfl) (fun _ => ⟨by omega, by omega⟩))
        apply Trace.pu [] ((Pure.loadRp ty24 (.plain rfl) (fun _ => by rw [Val.row_length l _ (by omega)]; exact Nat.le_refl 4)).to (y := (l[i]).av) (by show AV.d (.agg ((Val.row l ((i : Int)).toNat).take 4)) = _; rw [Val.row_take l _ (by omega)]; simp))
        apply Trace.pu [] (.move (.plain rfl))
        apply Trace.pu [] (.arith (.plain rfl) (.plain rfl) rfl (fun _ => bd64 (by omega)))
        apply Trace.cu (callArgs0 (.cons (.plain rfl) (.cons (.plain rfl) .nil))) (ih l[i] (List.getElem_mem hlt) (d - 1) (by omega)) en36
        apply Trace.pu [] (.arith (.plain rfl) (.plain rfl) rfl (fun _ => bd64 (by omega)))
        apply Trace.pu [] (.assign (.plain rfl))
        exact .nil _
      · exact keepOK_of hk hn rfl
      apply WPA.region
      · apply Trace.pu [] (.move (.plain rfl))
        apply Trace.pu [] (.arith (.plain rfl) (.plain rfl) rfl (fun _ => bd64 (by omega)))
        apply Trace.pu [] (.assign (.plain rfl))
        exact .nil _
      · exact keepOK_of hk hn rfl
      exact ⟨(i + 1, z + l[i].count (d - 1)), ⟨by show i + 1 ≤ _; omega, by show 0 ≤ z + _; omega, hst, by show z + _ ≤ _; omega⟩, by show l.length - (i + 1) < l.length - i; omega, St.le_cons rfl (St.le_cons rfl (St.le_cons rfl (St.le_cons (iv_eq (by show (i : Int) + 1 = ((i + 1 : Nat) : Int); omega)) (St.le_cons rfl (St.le_nil _)))))⟩
    · have hend : z = (Val.mk k n s l).count d := by
        rw [← hi3]
        by_cases hil : i < l.length
        · have hz : 1000 < z := by simp at hc2; have := hc2 hil; omega
          rw [Val.counts_stop _ _ _ hz]
        · rw [List.drop_of_length_le (by omega)]; simp [Val.counts]
      apply WPA.exit
      apply WPA.seq
      apply WPA.region
      · apply Trace.pu [] (.move (.plain rfl))
        apply Trace.pu [] (.assign (.plain rfl))
        exact .nil _
      · exact keepOK_of hk hn rfl
      apply WPA.ret
      refine ⟨.inr rfl, ⟨_, (.cons (.tmp rfl) .nil), ?_⟩, by simp [St.get]⟩
      rw [hend]; rfl
/-- soundpost/soundpostref01.Few -/
theorem spec25 (v : Val) (hz : v.Sz) (d : Int) (hd : -1 ≤ d ∧ d ≤ 1000000000) : FnSpec Try.prog 25 [v.av, iv .i64 d] [] (bv (decide (v.count d ≤ 200))) [] [] := by
  refine fnSpec_of (rs := [.tmp 4]) Try.func25 rfl rfl (Nat.le_of_ble_eq_true rfl) (by simp [St.get]) fun E hk hn => ?_
  apply WPA.seq
  apply WPA.region
  · first | apply Trace.boxD 2 [] (.plain rfl) rfl rfl | apply Trace.box 2 [] (.plain rfl) rfl rfl rfl
    apply Trace.pu [] (.assign (.plain rfl))
    exact .nil _
  · exact keepOK_of hk hn rfl
  apply WPA.seq
  apply WPA.region
  · first | apply Trace.pu [_] (.loadAllD ty24 (.plain rfl) rfl (by simp [Val.cells_length])) | apply Trace.pu [_] (.loadLocD ty24 (.plain rfl) rfl (fun _ => by simp [Val.cells_length])) | apply Trace.pu [_] (.loadLoc ty24 (.plain rfl) rfl (fun _ => Nat.le_of_ble_eq_true rfl)) | apply Trace.pu [] (.loadRp ty24 (.plain rfl) (fun _ => by decide)) | apply Trace.pu [_] (.loadCol ty24 (.plain rfl) rfl rfl (fun _ => by decide) (fun _ => by omega)) | apply Trace.pu [_] (.loadArr ty24 (.plain rfl) rfl)
    apply Trace.pu [] (.move (.plain rfl))
    apply Trace.cu (callArgs0 (.cons (.plain rfl) (.cons (.plain rfl) .nil))) (spec36 v hz d hd) en36
    apply Trace.pu [] (.cmp (.plain rfl) (.plain rfl) rfl)
    apply Trace.pu [] (.assign (.plain rfl))
    exact .nil _
  · exact keepOK_of hk hn rfl
  apply WPA.ret
  refine ⟨.inr rfl, ⟨_, (.cons (.tmp rfl) .nil), ?_⟩, by simp [St.get]⟩
  rfl

end Go.Proofs.Ytlccnbnnlfbfjaa

