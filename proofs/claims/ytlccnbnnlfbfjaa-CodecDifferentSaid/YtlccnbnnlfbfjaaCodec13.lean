/- Decode of the specification. -/
import Derived.Test.YtlccnbnnlfbfjaaCodec6
import Derived.Test.YtlccnbnnlfbfjaaCodec11
import Derived.Test.YtlccnbnnlfbfjaaCodec12
namespace Go.Proofs.Ytlccnbnnlfbfjaa
open Go
set_option linter.unusedVariables false
set_option linter.unusedSimpArgs false
set_option maxRecDepth 10000

theorem strOf_inj {l m : List Int} (hl : Bytes l) (hm : Bytes m) (h : strOf l = strOf m) : l = m := by
  rw [← bytesI_bytesOf hl, ← bytesI_bytesOf hm]
  exact congrArg bytesI h
/-- soundpost/soundpostref01.Decode -/
theorem spec19 (xs : List Int) (hx : xs.length ≤ 1000000) (hb : Bytes xs) : FnSpec Try.prog 19 [.d (bytesD xs)] [] (.tup ([.agg (dval xs).cells, .v (.int .i64 (derr xs))].map .d)) [] [] := by
  rw [bytesD_rest]
  refine fnSpec_of (rs := [.cell 2 24, .tmp 3]) Try.func19 rfl rfl (Nat.le_of_ble_eq_true rfl) (by simp [St.get]) fun E hk hn => ?_
  apply WPA.seq
  apply WPA.region
  · apply Trace.alloc 2 [] (.data _) zo24 (cellsAs_data _) rfl
    apply Trace.pu [] (.assign (.plain rfl))
    exact .nil _
  · exact keepOK_of hk hn rfl
  apply WPA.seq
  obtain ⟨v, q, bad, hv⟩ : ∃ v q bad, bval xs 16 0 = (v, q, bad) := ⟨_, _, _, rfl⟩
  have hrv := bval_opt (xs := xs) 16 0
  rw [hv] at hrv
  have hql := bval_le (xs := xs) 16 0 (Nat.zero_le _)
  have hok : bad = false → Read xs 16 0 v q := fun h => rval_sound hb (by omega) _ _ _ _ (by rw [hrv, h]; rfl)
  have h34 := spec34 xs hx hb 16 (by decide) 0 (Nat.zero_le _)
  rw [hv] at h34 hql
  simp only at h34 hql
  have hdec : decoded xs = if bad = false ∧ q = xs.length then some v else none := by
    unfold decoded
    rw [hrv]
    cases bad <;> simp [optOf]
  have hel : bad = false → v.enc.length ≤ 1000000 := fun h => by
    have := congrArg List.length (hok h).enc
    simp at this
    omega
  have hbe : bad = false → Bytes v.enc := fun h x hx => hb x (by
    have := (hok h).enc
    simp at this
    rw [this]
    simp [hx])
  apply WPA.region
  · apply Trace.pu [] (.move (.plain rfl))
    apply Trace.pu [] (.build zo62 pl62 (.cons (.plain rfl) rfl rfl (Nat.le_of_ble_eq_true rfl) (.nil _ _)) rfl)
    apply Trace.boxD 8 [] (.plain rfl) rfl rfl
    apply Trace.pu [] (.assign (.plain rfl))
    exact .nil _
  · exact keepOK_of hk hn rfl
  apply WPA.seq
  apply WPA.region
  · apply Trace.pu [] (.move (.plain rfl))
    apply Trace.cb [] [bk 8] (callArgs0 (.cons (.plain rfl) (.cons (.plain rfl) .nil))) (h34.as 0 8 rfl rfl rfl rfl rfl rfl rfl) en34 (.cons rfl .nil) rfl rfl
    apply Trace.alloc 5 [] (.data _) zo24 (cellsAs_data _) rfl
    first | apply Trace.storeD ty24 (.plain rfl) (.plain rfl) rfl rfl (by simp [Val.cells_length, spliceL]) (by first | exact Val.cells_one _ | simp [AV.oneB, single, spliceL]) (by simp [Val.cells_length, spliceL]) (spliceL_all (by simp [Val.cells_length, spliceL])) | apply Trace.storeD ty24 (.plain rfl) (.plain rfl) rfl rfl (by simp [Val.cells_length, spliceL]) (by first | exact Val.cells_one _ | simp [AV.oneB, single, spliceL]) (by simp [Val.cells_length, spliceL]) rfl | apply Trace.storeDA ty24 (.plain rfl) (.plain rfl) rfl rfl (by simp [Val.cells_length, spliceL]) (by simp [AV.oneB, single]) (by simp [Val.cells_length, spliceL]) rfl | apply Trace.storeLoc ty24 (.plain rfl) (.plain rfl) rfl rfl (by simp [Val.cells_length, spliceL]) (by simp [AV.oneB, single]) (by simp) rfl | apply Trace.storeRow ty24 (.plain rfl) (.plain rfl) rfl rfl rfl rfl (by decide) (by simp [AV.oneB, single]) rfl (by omega)
    exact .nil _
  · exact keepOK_of hk hn rfl
  apply WPA.seq
  apply WPA.seq
  apply WPA.draw mixed
  · apply Trace.pu [] (.move (.plain rfl))
    apply Trace.pu [] (.nilCheck (.plain rfl) rfl)
    apply Trace.pu [] (.fieldAddr fl62_2 (.plain rfl) rfl)
    first | apply Trace.pu [_] (.loadLoc1D ty4 (.plain rfl) rfl rfl) | apply Trace.pu [_] (.loadLoc1 ty4 (.plain rfl) rfl rfl) | apply Trace.pu [] (.loadRp1 ty4 (.plain rfl) rfl) | apply Trace.pu [_] (.loadCol1 ty4 (.plain rfl) rfl rfl rfl (fun _ => by omega))
    apply Trace.pu [] (.move (.plain rfl))
    apply Trace.pg [] rfl (.move (.plain rfl))
    apply Trace.pg [] rfl (.nilCheck (.gd rfl (fun h => h)) rfl)
    apply Trace.pg [] rfl (.fieldAddr fl62_1 (.gd rfl (fun h => h)) rfl)
    first | apply Trace.pg [_] rfl (.loadLoc1D ty3 (.gd rfl (fun h => h)) rfl rfl) | apply Trace.pg [_] rfl (.loadLoc1 ty3 (.gd rfl (fun h => h)) rfl rfl) | apply Trace.pg [] rfl (.loadRp1 ty3 (.gd rfl (fun h => h)) rfl) | apply Trace.pg [_] rfl (.loadCol1 ty3 (.gd rfl (fun h => h)) rfl rfl rfl (fun _ => by omega))
    apply Trace.pg [] rfl (.move (.plain rfl))
    apply Trace.pg [] rfl (.len rfl Try.underlying27 (.gd rfl (fun h => h)) rfl)
    apply Trace.pg [] rfl (.cmp (.gd rfl (fun h => h)) (.gd rfl (fun h => h)) rfl)
    apply Trace.pu [] (.pick (.plain rfl) (.plain rfl) (.gd rfl (by simp)))
    apply Trace.pu [] (.move (.plain rfl))
    apply Trace.pg [_] rfl ((Pure.loadAllD ty24 (.plain rfl) rfl (by simp [Val.cells_length])).to (y := v.av) rfl)
    apply Trace.cg rfl (callArgs0 (.cons (.gd rfl (fun h => h)) .nil)) (fun h => have hf : bad = false := (by cases bad <;> simp_all); spec17 v (hok hf).sz (by have := (hok hf).depth; omega)) en17
    apply Trace.pg [] rfl (.cmp (.gd rfl (fun h => h)) (.plain rfl) rfl)
    apply Trace.pu [] (.pick (.plain rfl) (.plain rfl) (.gd rfl (by simp)))
    apply Trace.pu [] (.move (.plain rfl))
    apply Trace.pg [_] rfl ((Pure.loadAllD ty24 (.plain rfl) rfl (by simp [Val.cells_length])).to (y := v.av) rfl)
    apply Trace.cg rfl (callArgs0 (.cons (.gd rfl (fun h => h)) .nil)) (fun h => have hf : bad = false := (by cases bad <;> simp_all); (spec27 v (hok hf).sz (hok hf).formed (by have := hel hf; omega)).frozen (g := fun i => [.v (.int .u8 (v.enc.getD i 0))]) (fun i hi => by simp [Col.at])) en27
    apply Trace.pg [] rfl (.strRows (xs := v.enc) bs27 Try.underlying9 (.gd rfl (fun h => h)) (fun _ => rfl) (fun _ i hi => rfl))
    apply Trace.pg [] rfl (.move (.plain rfl))
    apply Trace.pg [] rfl (.strRows (xs := xs) bs27 Try.underlying9 (.gd rfl (fun h => h)) (fun _ => rfl) (fun _ i hi => by simp))
    apply Trace.pg [] rfl (.sne (.gd rfl (fun h => h)) (.gd rfl (fun h => h)))
    apply Trace.pu [] (.pick (.plain rfl) (.plain rfl) (.gd rfl (by simp)))
    exact .nil _
  · rfl
  · exact keepOK_of hk hn rfl
  refine WPA.cond rfl (fun hc1 => ?_) (fun hc1 => ?_)
  · have hdn : decoded xs = none := by
      rw [hdec]
      split
      · rename_i h
        exfalso
        obtain ⟨hf, rfl⟩ := h
        have hr := hok hf
        have he := hr.enc
        simp at he
        have hch : v.check = 0 := by have := hr.depth; simp [Val.check, hr.formed]; omega
        subst hf
        simp [hch, he] at hc1
      · rfl
    have e1 : dval xs = Val.none := by simp [dval, hdn]
    have e2 : derr xs = 10 := by simp [derr, hdn]
    rw [e1, e2]
    apply WPA.seq
    apply WPA.region
    · apply Trace.pu [] (.build zo24 pl24 (.nil _ _) rfl)
      first | apply Trace.storeD ty24 (.plain rfl) (.plain rfl) rfl rfl (by simp [Val.cells_length, spliceL]) (by first | exact Val.cells_one _ | simp [AV.oneB, single, spliceL]) (by simp [Val.cells_length, spliceL]) (spliceL_all (by simp [Val.cells_length, spliceL])) | apply Trace.storeD ty24 (.plain rfl) (.plain rfl) rfl rfl (by simp [Val.cells_length, spliceL]) (by first | exact Val.cells_one _ | simp [AV.oneB, single, spliceL]) (by simp [Val.cells_length, spliceL]) rfl | apply Trace.storeDA ty24 (.plain rfl) (.plain rfl) rfl rfl (by simp [Val.cells_length, spliceL]) (by simp [AV.oneB, single]) (by simp [Val.cells_length, spliceL]) rfl | apply Trace.storeLoc ty24 (.plain rfl) (.plain rfl) rfl rfl (by simp [Val.cells_length, spliceL]) (by simp [AV.oneB, single]) (by simp) rfl | apply Trace.storeRow ty24 (.plain rfl) (.plain rfl) rfl rfl rfl rfl (by decide) (by simp [AV.oneB, single]) rfl (by omega)
      apply Trace.pu [] (.assign (.plain rfl))
      exact .nil _
    · exact keepOK_of hk hn rfl
    refine WPA.ghost (Ghost.dataLe (l := 2) rfl (.same (.same (.same (.rows (n := 4) (g := Val.row []) .nil))))) ?_
    apply WPA.ret
    refine ⟨.inr rfl, ⟨_, (.cons (.cellD rfl rfl ty24 (by simp [Val.cells_length, Val.none, Val.cells])) (.cons (.tmp rfl) .nil)), ?_⟩, by simp [St.get]⟩
    rfl
  · have hds : decoded xs = some v := by
      rw [hdec, if_pos]
      cases bad
      · refine ⟨rfl, ?_⟩
        simp at hc1
        omega
      · simp at hc1
    have e1 : dval xs = v := by simp [dval, hds]
    have e2 : derr xs = 0 := by simp [derr, hds]
    rw [e1, e2]
    apply WPA.skip
    apply WPA.seq
    apply WPA.region
    · first | apply Trace.pu [_] (.loadAllD ty24 (.plain rfl) rfl (by simp [Val.cells_length, spliceL])) | apply Trace.pu [_] (.loadLocD ty24 (.plain rfl) rfl (fun _ => by simp [Val.cells_length, spliceL])) | apply Trace.pu [_] (.loadLoc ty24 (.plain rfl) rfl (fun _ => Nat.le_of_ble_eq_true rfl)) | apply Trace.pu [] (.loadRp ty24 (.plain rfl) (fun _ => by decide)) | apply Trace.pu [_] (.loadCol ty24 (.plain rfl) rfl rfl (fun _ => by decide) (fun _ => by omega)) | apply Trace.pu [_] (.loadArr ty24 (.plain rfl) rfl)
      first | apply Trace.storeD ty24 (.plain rfl) (.plain rfl) rfl rfl (by simp [Val.cells_length, spliceL]) (by first | exact Val.cells_one _ | simp [AV.oneB, single, spliceL]) (by simp [Val.cells_length, spliceL]) (spliceL_all (by simp [Val.cells_length, spliceL])) | apply Trace.storeD ty24 (.plain rfl) (.plain rfl) rfl rfl (by simp [Val.cells_length, spliceL]) (by first | exact Val.cells_one _ | simp [AV.oneB, single, spliceL]) (by simp [Val.cells_length, spliceL]) rfl | apply Trace.storeDA ty24 (.plain rfl) (.plain rfl) rfl rfl (by simp [Val.cells_length, spliceL]) (by simp [AV.oneB, single]) (by simp [Val.cells_length, spliceL]) rfl | apply Trace.storeLoc ty24 (.plain rfl) (.plain rfl) rfl rfl (by simp [Val.cells_length, spliceL]) (by simp [AV.oneB, single]) (by simp) rfl | apply Trace.storeRow ty24 (.plain rfl) (.plain rfl) rfl rfl rfl rfl (by decide) (by simp [AV.oneB, single]) rfl (by omega)
      apply Trace.pu [] (.assign (.plain rfl))
      exact .nil _
    · exact keepOK_of hk hn rfl
    apply WPA.ret
    refine ⟨.inr rfl, ⟨_, (.cons (.cellD rfl rfl ty24 (by simp [Val.cells_length, Val.none, Val.cells])) (.cons (.tmp rfl) .nil)), ?_⟩, by simp [St.get]⟩
    rfl

end Go.Proofs.Ytlccnbnnlfbfjaa

