/- codec.formed and codec.Check: well-formed, depth. -/
import Derived.Test.YtlccnbnnlfbfjaaTypes
import Derived.Test.YtlccnbnnlfbfjaaCodecMath
namespace Go.Proofs.Ytlccnbnnlfbfjaa
open Go
set_option linter.unusedVariables false
set_option linter.unusedSimpArgs false
set_option maxRecDepth 10000

/-- soundpost/codec.formed -/
theorem spec28 (v : Val) (hz : v.Sz) (hd : v.depth ≤ 4611686018427387904) : FnSpec Try.prog 28 [v.av] [] (.tup ([.v (.int .i64 (if v.formed then v.depth else 0)), .v (.bool v.formed)].map .d)) [] [] := by
  revert hd
  induction hz
  rename_i k n s l h1 h2 h3 h4 hx ih
  intro hd
  refine fnSpec_of (rs := [.tmp 2, .tmp 3]) Try.func28 rfl rfl (Nat.le_of_ble_eq_true rfl) (by simp [St.get]) fun E hk hn => ?_
  apply WPA.seq
  apply WPA.region
  · first | apply Trace.boxD 1 [] (.plain rfl) rfl rfl | apply Trace.box 1 [] (.plain rfl) rfl rfl rfl
    apply Trace.pu [] (.assign (.plain rfl))
    apply Trace.pu [] (.assign (.plain rfl))
    exact .nil _
  · exact keepOK_of hk hn rfl
  apply WPA.seq
  apply WPA.region
  · apply Trace.pu [] (.fieldAddr fl24_2 (.plain rfl) rfl)
    first | apply Trace.pu [_] (.loadLoc1D ty9 (.plain rfl) rfl rfl) | apply Trace.pu [_] (.loadLoc1 ty9 (.plain rfl) rfl rfl) | apply Trace.pu [] (.loadRp1 ty9 (.plain rfl) rfl) | apply Trace.pu [_] (.loadCol1 ty9 (.plain rfl) rfl rfl rfl (fun _ => by omega))
    apply Trace.pu [] (.seq (.plain rfl) (.plain rfl))
    apply Trace.pu [] (.move (.plain rfl))
    apply Trace.pg [] rfl (.fieldAddr fl24_3 (.plain rfl) rfl)
    first | apply Trace.pg [_] rfl (.loadLoc1D ty22 (.gd rfl (fun h => h)) rfl rfl) | apply Trace.pg [_] rfl (.loadLoc1 ty22 (.gd rfl (fun h => h)) rfl rfl) | apply Trace.pg [] rfl (.loadRp1 ty22 (.gd rfl (fun h => h)) rfl) | apply Trace.pg [_] rfl (.loadCol1 ty22 (.gd rfl (fun h => h)) rfl rfl rfl (fun _ => by omega))
    apply Trace.pg [] rfl (.len rfl Try.underlying22 (.gd rfl (fun h => h)) rfl)
    apply Trace.pg [] rfl (.cmp (.gd rfl (fun h => h)) (.plain rfl) rfl)
    apply Trace.pu [] (.pick (.plain rfl) (.gd rfl (by simp)) (.plain rfl))
    apply Trace.pu [] (.fieldAddr fl24_1 (.plain rfl) rfl)
    first | apply Trace.pu [_] (.loadLoc1D ty3 (.plain rfl) rfl rfl) | apply Trace.pu [_] (.loadLoc1 ty3 (.plain rfl) rfl rfl) | apply Trace.pu [] (.loadRp1 ty3 (.plain rfl) rfl) | apply Trace.pu [_] (.loadCol1 ty3 (.plain rfl) rfl rfl rfl (fun _ => by omega))
    apply Trace.pu [] (.cmp (.plain rfl) (.plain rfl) rfl)
    apply Trace.pu [] (.move (.plain rfl))
    apply Trace.pg [] rfl (.fieldAddr fl24_3 (.plain rfl) rfl)
    first | apply Trace.pg [_] rfl (.loadLoc1D ty22 (.gd rfl (fun h => h)) rfl rfl) | apply Trace.pg [_] rfl (.loadLoc1 ty22 (.gd rfl (fun h => h)) rfl rfl) | apply Trace.pg [] rfl (.loadRp1 ty22 (.gd rfl (fun h => h)) rfl) | apply Trace.pg [_] rfl (.loadCol1 ty22 (.gd rfl (fun h => h)) rfl rfl rfl (fun _ => by omega))
    apply Trace.pg [] rfl (.len rfl Try.underlying22 (.gd rfl (fun h => h)) rfl)
    apply Trace.pg [] rfl (.cmp (.gd rfl (fun h => h)) (.plain rfl) rfl)
    apply Trace.pu [] (.pick (.plain rfl) (.gd rfl (by simp)) (.plain rfl))
    apply Trace.pu [] (.fieldAddr fl24_1 (.plain rfl) rfl)
    first | apply Trace.pu [_] (.loadLoc1D ty3 (.plain rfl) rfl rfl) | apply Trace.pu [_] (.loadLoc1 ty3 (.plain rfl) rfl rfl) | apply Trace.pu [] (.loadRp1 ty3 (.plain rfl) rfl) | apply Trace.pu [_] (.loadCol1 ty3 (.plain rfl) rfl rfl rfl (fun _ => by omega))
    apply Trace.pu [] (.cmp (.plain rfl) (.plain rfl) rfl)
    apply Trace.pu [] (.move (.plain rfl))
    apply Trace.pg [] rfl (.fieldAddr fl24_2 (.plain rfl) rfl)
    first | apply Trace.pg [_] rfl (.loadLoc1D ty9 (.gd rfl (fun h => h)) rfl rfl) | apply Trace.pg [_] rfl (.loadLoc1 ty9 (.gd rfl (fun h => h)) rfl rfl) | apply Trace.pg [] rfl (.loadRp1 ty9 (.gd rfl (fun h => h)) rfl) | apply Trace.pg [_] rfl (.loadCol1 ty9 (.gd rfl (fun h => h)) rfl rfl rfl (fun _ => by omega))
    apply Trace.pg [] rfl (.seq (.gd rfl (fun h => h)) (.plain rfl))
    apply Trace.pu [] (.pick (.plain rfl) (.gd rfl (by simp)) (.plain rfl))
    apply Trace.pu [] (.build zo71 pl71 (.cons (.plain rfl) rfl rfl (Nat.le_of_ble_eq_true rfl) (.cons (.plain rfl) rfl rfl (Nat.le_of_ble_eq_true rfl) (.cons (.plain rfl) rfl rfl (Nat.le_of_ble_eq_true rfl) (.nil _ _)))) rfl)
    apply Trace.alloc 4 [] (.data _) zo71 (cellsAs_data _) rfl
    first | apply Trace.storeD ty71 (.plain rfl) (.plain rfl) rfl rfl (by simp [Val.cells_length]) (by first | exact Val.cells_one _ | simp [AV.oneB, single]) (by simp [Val.cells_length]) (spliceL_all (by simp [Val.cells_length])) | apply Trace.storeD ty71 (.plain rfl) (.plain rfl) rfl rfl (by simp [Val.cells_length]) (by first | exact Val.cells_one _ | simp [AV.oneB, single]) (by simp [Val.cells_length]) rfl | apply Trace.storeDA ty71 (.plain rfl) (.plain rfl) rfl rfl (by simp [Val.cells_length]) (by simp [AV.oneB, single]) (by simp [Val.cells_length]) rfl | apply Trace.storeLoc ty71 (.plain rfl) (.plain rfl) rfl rfl (by simp [Val.cells_length]) (by simp [AV.oneB, single]) (by simp) rfl | apply Trace.storeRow ty71 (.plain rfl) (.plain rfl) rfl rfl rfl rfl (by decide) (by simp [AV.oneB, single]) rfl (by omega)
    exact .nil _
  · exact keepOK_of hk hn rfl
  apply WPA.seq
  apply WPA.seq
  refine WPA.ghost (Ghost.dataCols (l := 4) (n := 4) rfl rfl rfl) ?_
  apply WPA.region
  · apply Trace.pu [] (.fieldAddr fl24_0 (.plain rfl) rfl)
    first | apply Trace.pu [_] (.loadLoc1D ty3 (.plain rfl) rfl rfl) | apply Trace.pu [_] (.loadLoc1 ty3 (.plain rfl) rfl rfl) | apply Trace.pu [] (.loadRp1 ty3 (.plain rfl) rfl) | apply Trace.pu [_] (.loadCol1 ty3 (.plain rfl) rfl rfl rfl (fun _ => by omega))
    apply Trace.pu [] (.cmp (.plain rfl) (.plain rfl) rfl)
    apply Trace.pu [] (.move (.plain rfl))
    apply Trace.pg [] rfl (.fieldAddr fl24_0 (.plain rfl) rfl)
    first | apply Trace.pg [_] rfl (.loadLoc1D ty3 (.gd rfl (fun h => h)) rfl rfl) | apply Trace.pg [_] rfl (.loadLoc1 ty3 (.gd rfl (fun h => h)) rfl rfl) | apply Trace.pg [] rfl (.loadRp1 ty3 (.gd rfl (fun h => h)) rfl) | apply Trace.pg [_] rfl (.loadCol1 ty3 (.gd rfl (fun h => h)) rfl rfl rfl (fun _ => by omega))
    apply Trace.pg [] rfl (.cmp (.gd rfl (fun h => h)) (.plain rfl) rfl)
    apply Trace.pu [] (.pick (.plain rfl) (.plain rfl) (.gd rfl (by simp)))
    apply Trace.pu [] (.move (.plain rfl))
    apply Trace.pg [] rfl (.fieldAddr fl24_0 (.plain rfl) rfl)
    first | apply Trace.pg [_] rfl (.loadLoc1D ty3 (.gd rfl (fun h => h)) rfl rfl) | apply Trace.pg [_] rfl (.loadLoc1 ty3 (.gd rfl (fun h => h)) rfl rfl) | apply Trace.pg [] rfl (.loadRp1 ty3 (.gd rfl (fun h => h)) rfl) | apply Trace.pg [_] rfl (.loadCol1 ty3 (.gd rfl (fun h => h)) rfl rfl rfl (fun _ => by omega))
    apply Trace.pg [] rfl (.indexArr ar71 (.plain rfl) (.gd rfl (fun h => h)) (fun h => by simp at h; omega))
    apply Trace.pg [_] rfl (.loadCol1 ty4 (.gd rfl (fun h => h)) rfl rfl rfl (fun h => by simp at h; omega))
    apply Trace.pg [] rfl (.not (.gd rfl (fun h => h)))
    apply Trace.pu [] (.pick (.plain rfl) (.plain rfl) (.gd rfl (by simp)))
    exact .nil _
  · exact keepOK_of hk hn rfl
  refine WPA.cond rfl (fun hc1 => ?_) (fun hc1 => ?_)
  · apply WPA.seq
    apply WPA.region
    · apply Trace.pu [] (.assign (.plain rfl))
      apply Trace.pu [] (.assign (.plain rfl))
      exact .nil _
    · exact keepOK_of hk hn rfl
    apply WPA.ret
    refine ⟨.inr rfl, ⟨_, (.cons (.tmp rfl) (.cons (.tmp rfl) .nil)), ?_⟩, by simp [St.get]⟩
    have hF : (Val.mk k n s l).formed = false := by
      rw [used_eq] at hc1
      rw [Val.formed_eq]
      simp at hc1 ⊢
      grind
    simp [hF, resOf, D.ofV]
  · apply WPA.skip
    apply WPA.seq
    apply WPA.seq
    apply WPA.region
    · apply Trace.pu [] (.fieldAddr fl24_0 (.plain rfl) rfl)
      first | apply Trace.pu [_] (.loadLoc1D ty3 (.plain rfl) rfl rfl) | apply Trace.pu [_] (.loadLoc1 ty3 (.plain rfl) rfl rfl) | apply Trace.pu [] (.loadRp1 ty3 (.plain rfl) rfl) | apply Trace.pu [_] (.loadCol1 ty3 (.plain rfl) rfl rfl rfl (fun _ => by omega))
      apply Trace.pu [] (.cmp (.plain rfl) (.plain rfl) rfl)
      exact .nil _
    · exact keepOK_of hk hn rfl
    refine WPA.cond rfl (fun hc2 => ?_) (fun hc2 => ?_)
    · apply WPA.seq
      apply WPA.region
      · apply Trace.pu [] (.assign (.plain rfl))
        apply Trace.pu [] (.assign (.plain rfl))
        exact .nil _
      · exact keepOK_of hk hn rfl
      apply WPA.ret
      refine ⟨.inr rfl, ⟨_, (.cons (.tmp rfl) (.cons (.tmp rfl) .nil)), ?_⟩, by simp [St.get]⟩
      have hF : (Val.mk k n s l).formed = true := by
        rw [used_eq] at hc1
        rw [Val.formed_eq]
        simp at hc1 hc2 ⊢
        grind
      have hk3 : k ≠ 3 := by simp at hc2; omega
      simp [hF, resOf, D.ofV, Val.depth, hk3]
    · apply WPA.skip
      apply WPA.seq
      apply WPA.seq
      have hk3 : k = 3 := by
        rw [used_eq] at hc1; simp at hc1 hc2; omega
      have hdl : Val.depths l + 1 ≤ 4611686018427387904 := by
        simp only [Val.depth, hk3, if_true] at hd; omega
      apply WPA.region
      · apply Trace.pu [] (.fieldAddr fl24_3 (.plain rfl) rfl)
        first | apply Trace.pu [_] (.loadLoc1D ty22 (.plain rfl) rfl rfl) | apply Trace.pu [_] (.loadLoc1 ty22 (.plain rfl) rfl rfl) | apply Trace.pu [] (.loadRp1 ty22 (.plain rfl) rfl) | apply Trace.pu [_] (.loadCol1 ty22 (.plain rfl) rfl rfl rfl (fun _ => by omega))
        apply Trace.pu [] (.len rfl Try.underlying22 (.plain rfl) rfl)
        apply Trace.pu [] (.move (.plain rfl))
        exact .nil _
      · exact keepOK_of hk hn rfl
      apply WPA.block
      refine WPA.loop (σ := Nat) (fun i => [(sl 2, .av (iv .i64 (Val.depths (l.take i)))), (sl 55, .av (.d (.rows 4 l.length (Val.row l)))), (sl 56, .av (iv .i64 l.length)), (sl 57, .av (iv .i64 i))]) (fun i => i ≤ l.length ∧ Val.formeds (l.take i) = true) (fun i => l.length - i) 0
        (St.le_cons rfl (St.le_cons rfl (St.le_cons rfl (St.le_cons rfl (St.le_nil _))))) ⟨Nat.zero_le _, rfl⟩ fun i hi => ?_
      apply WPA.seq
      apply WPA.region
      · apply Trace.pu [] (.cmp (.plain rfl) (.plain rfl) rfl)
        exact .nil _
      · exact keepOK_of hk hn rfl
      apply WPA.seq
      refine WPA.cond rfl (fun hc3 => ?_) (fun hc3 => ?_)
      · have hlt : i < l.length := by simpa using hc3
        apply WPA.skip
        apply WPA.seq
        apply WPA.block
        apply WPA.seq
        apply WPA.region
        · first | apply Trace.pu [] (.indexRows el22 (.plain rfl) (.plain rfl) (fun _ => ⟨by omega, by omega⟩)) | apply Trace.pu [] (.indexOwn el22 (.plain rfl) (.plain rfl) (fun _ => ⟨by omega, by omega⟩)) | apply Trace.pu [] (.indexSl el22 (.plain rfl) (.plain rfl) (fun _ => ⟨by omega, by omega⟩))
          apply Trace.pu [] ((Pure.loadRp ty24 (.plain rfl) (fun _ => by rw [Val.row_length l _ (by omega)]; exact Nat.le_refl 4)).to (y := (l[i]).av) (by show AV.d (.agg ((Val.row l ((i : Int)).toNat).take 4)) = _; rw [Val.row_take l _ (by omega)]; simp))
          apply Trace.alloc 6 [] (.data _) zo24 (cellsAs_data _) rfl
          first | apply Trace.storeD ty24 (.plain rfl) (.plain rfl) rfl rfl (by simp [Val.cells_length]) (by first | exact Val.cells_one _ | simp [AV.oneB, single]) (by simp [Val.cells_length]) (spliceL_all (by simp [Val.cells_length])) | apply Trace.storeD ty24 (.plain rfl) (.plain rfl) rfl rfl (by simp [Val.cells_length]) (by first | exact Val.cells_one _ | simp [AV.oneB, single]) (by simp [Val.cells_length]) rfl | apply Trace.storeDA ty24 (.plain rfl) (.plain rfl) rfl rfl (by simp [Val.cells_length]) (by simp [AV.oneB, single]) (by simp [Val.cells_length]) rfl | apply Trace.storeLoc ty24 (.plain rfl) (.plain rfl) rfl rfl (by simp [Val.cells_length]) (by simp [AV.oneB, single]) (by simp) rfl | apply Trace.storeRow ty24 (.plain rfl) (.plain rfl) rfl rfl rfl rfl (by decide) (by simp [AV.oneB, single]) rfl (by omega)
          exact .nil _
        · exact keepOK_of hk hn rfl
        apply WPA.seq
        apply WPA.region
        · first | apply Trace.pu [_] (.loadAllD ty24 (.plain rfl) rfl (by simp [Val.cells_length])) | apply Trace.pu [_] (.loadLocD ty24 (.plain rfl) rfl (fun _ => by simp [Val.cells_length])) | apply Trace.pu [_] (.loadLoc ty24 (.plain rfl) rfl (fun _ => Nat.le_of_ble_eq_true rfl)) | apply Trace.pu [] (.loadRp ty24 (.plain rfl) (fun _ => by decide)) | apply Trace.pu [_] (.loadCol ty24 (.plain rfl) rfl rfl (fun _ => by decide) (fun _ => by omega)) | apply Trace.pu [_] (.loadArr ty24 (.plain rfl) rfl)
          apply Trace.ct (callArgs0 (.cons (.plain rfl) .nil)) (ih l[i] (List.getElem_mem hlt) (by have := Val.depth_mem l[i] (List.getElem_mem hlt); omega)) en28
          apply Trace.pu [] (.move (.plain rfl))
          apply Trace.pu [] (.extract (.plain rfl) rfl)
          apply Trace.pu [] (.extract (.plain rfl) rfl)
          apply Trace.pu [] (.assign (.plain rfl))
          apply Trace.pu [] (.assign (.plain rfl))
          exact .nil _
        · exact keepOK_of hk hn rfl
        apply WPA.seq
        apply WPA.seq
        apply WPA.region
        · apply Trace.pu [] (.move (.plain rfl))
          apply Trace.pu [] (.not (.plain rfl))
          exact .nil _
        · exact keepOK_of hk hn rfl
        refine WPA.cond rfl (fun hc4 => ?_) (fun hc4 => ?_)
        · apply WPA.seq
          apply WPA.region
          · apply Trace.pu [] (.assign (.plain rfl))
            apply Trace.pu [] (.assign (.plain rfl))
            exact .nil _
          · exact keepOK_of hk hn rfl
          apply WPA.ret
          refine ⟨.inr rfl, ⟨_, (.cons (.tmp rfl) (.cons (.tmp rfl) .nil)), ?_⟩, by simp [St.get]⟩
          have hb : l[i].formed = false := by simpa using hc4
          have hF : (Val.mk k n s l).formed = false := by
            have : Val.formeds l = false := by
              cases h : Val.formeds l with
              | false => rfl
              | true => rw [Val.formeds_mem h _ (List.getElem_mem hlt)] at hb; cases hb
            rw [Val.formed_eq, this]
            subst hk3
            simp
          simp [hF, resOf, D.ofV]
        · apply WPA.skip
          apply WPA.region
          · apply Trace.pu [] (.move (.plain rfl))
            apply Trace.pu [] (.move (.plain rfl))
            apply Trace.pu [] (.max2 (.plain rfl) (.plain rfl))
            apply Trace.pu [] (.assign (.plain rfl))
            exact .nil _
          · exact keepOK_of hk hn rfl
          apply WPA.region
          · apply Trace.pu [] (.arith (.plain rfl) (.plain rfl) rfl (fun _ => bd64 (by omega)))
            apply Trace.pu [] (.move (.plain rfl))
            exact .nil _
          · exact keepOK_of hk hn rfl
          have hb : l[i].formed = true := by simpa using hc4
          have e1 : Val.depths (l.take (i + 1)) = max (Val.depths (l.take i)) l[i].depth := by rw [take_succ' l i hlt, Val.depths_append]; simp [Val.depths]
          have e2 : Val.formeds (l.take (i + 1)) = true := by rw [take_succ' l i hlt, Val.formeds_append]; simp [Val.formeds, hb, hi.2]
          exact ⟨i + 1, ⟨by omega, e2⟩, by omega, St.le_cons (iv_eq (by rw [hb, e1]; simp; omega)) (St.le_cons rfl (St.le_cons rfl (St.le_cons (iv_eq (by omega)) (St.le_nil _))))⟩
      · apply WPA.exit
        apply WPA.seq
        have hdt := Val.depths_take l i
        apply WPA.region
        · apply Trace.pu [] (.move (.plain rfl))
          apply Trace.pu [] (.arith (.plain rfl) (.plain rfl) rfl (fun _ => bd64 (by omega)))
          apply Trace.pu [] (.assign (.plain rfl))
          apply Trace.pu [] (.assign (.plain rfl))
          exact .nil _
        · exact keepOK_of hk hn rfl
        apply WPA.ret
        refine ⟨.inr rfl, ⟨_, (.cons (.tmp rfl) (.cons (.tmp rfl) .nil)), ?_⟩, by simp [St.get]⟩
        have hil : i = l.length := by
          have := hi.1
          simp at hc3; omega
        have hF : (Val.mk k n s l).formed = true := by
          have h0 := hi.2
          rw [hil, List.take_length] at h0
          rw [used_eq] at hc1
          rw [Val.formed_eq, h0]
          subst hk3
          simp at hc1 ⊢
          exact hc1
        rw [hil, List.take_length]
        rw [hF]
        simp [resOf, D.ofV, Val.depth, hk3]
        omega
/-- soundpost/codec.Check -/
theorem spec16 (v : Val) (hz : v.Sz) (hd : v.depth ≤ 4611686018427387904) : FnSpec Try.prog 16 [v.av] [] (.d (.v (.int .i64 (v.check)))) [] [] := by
  refine fnSpec_of (rs := [.tmp 2]) Try.func16 rfl rfl (Nat.le_of_ble_eq_true rfl) (by simp [St.get]) fun E hk hn => ?_
  apply WPA.seq
  apply WPA.region
  · first | apply Trace.boxD 1 [] (.plain rfl) rfl rfl | apply Trace.box 1 [] (.plain rfl) rfl rfl rfl
    apply Trace.pu [] (.assign (.plain rfl))
    exact .nil _
  · exact keepOK_of hk hn rfl
  apply WPA.seq
  apply WPA.region
  · first | apply Trace.pu [_] (.loadAllD ty24 (.plain rfl) rfl (by simp [Val.cells_length])) | apply Trace.pu [_] (.loadLocD ty24 (.plain rfl) rfl (fun _ => by simp [Val.cells_length])) | apply Trace.pu [_] (.loadLoc ty24 (.plain rfl) rfl (fun _ => Nat.le_of_ble_eq_true rfl)) | apply Trace.pu [] (.loadRp ty24 (.plain rfl) (fun _ => by decide)) | apply Trace.pu [_] (.loadCol ty24 (.plain rfl) rfl rfl (fun _ => by decide) (fun _ => by omega)) | apply Trace.pu [_] (.loadArr ty24 (.plain rfl) rfl)
    apply Trace.ct (callArgs0 (.cons (.plain rfl) .nil)) (spec28 v hz hd) en28
    apply Trace.pu [] (.move (.plain rfl))
    apply Trace.pu [] (.extract (.plain rfl) rfl)
    apply Trace.pu [] (.extract (.plain rfl) rfl)
    apply Trace.pu [] (.assign (.plain rfl))
    apply Trace.pu [] (.assign (.plain rfl))
    exact .nil _
  · exact keepOK_of hk hn rfl
  apply WPA.seq
  apply WPA.block
  apply WPA.seq
  apply WPA.region
  · apply Trace.pu [] (.move (.plain rfl))
    apply Trace.pu [] (.not (.plain rfl))
    apply Trace.pu [] (.assign (.plain rfl))
    exact .nil _
  · exact keepOK_of hk hn rfl
  refine WPA.cond rfl (fun hc1 => ?_) (fun hc1 => ?_)
  · apply WPA.seq
    apply WPA.region
    · apply Trace.pu [] (.assign (.plain rfl))
      exact .nil _
    · exact keepOK_of hk hn rfl
    apply WPA.ret
    refine ⟨.inr rfl, ⟨_, (.cons (.tmp rfl) .nil), ?_⟩, by simp [St.get]⟩
    have hF : v.formed = false := by simpa using hc1
    simp [Val.check, hF, resOf, D.ofV]
  · apply WPA.seq
    apply WPA.region
    · apply Trace.pu [] (.move (.plain rfl))
      apply Trace.pu [] (.cmp (.plain rfl) (.plain rfl) rfl)
      apply Trace.pu [] (.assign (.plain rfl))
      exact .nil _
    · exact keepOK_of hk hn rfl
    refine WPA.cond rfl (fun hc2 => ?_) (fun hc2 => ?_)
    · apply WPA.seq
      apply WPA.region
      · apply Trace.pu [] (.assign (.plain rfl))
        exact .nil _
      · exact keepOK_of hk hn rfl
      apply WPA.ret
      refine ⟨.inr rfl, ⟨_, (.cons (.tmp rfl) .nil), ?_⟩, by simp [St.get]⟩
      have hF : v.formed = true := by simpa using hc1
      rw [hF] at hc2
      have h2 : 16 < v.depth := by simp at hc2; omega
      simp [Val.check, hF, h2, resOf, D.ofV]
    · apply WPA.skip
      apply WPA.seq
      apply WPA.region
      · apply Trace.pu [] (.assign (.plain rfl))
        exact .nil _
      · exact keepOK_of hk hn rfl
      apply WPA.ret
      refine ⟨.inr rfl, ⟨_, (.cons (.tmp rfl) .nil), ?_⟩, by simp [St.get]⟩
      have hF : v.formed = true := by simpa using hc1
      rw [hF] at hc2
      have h2 : ¬ 16 < v.depth := by simp at hc2; omega
      simp [Val.check, hF, h2, resOf, D.ofV]

end Go.Proofs.Ytlccnbnnlfbfjaa

