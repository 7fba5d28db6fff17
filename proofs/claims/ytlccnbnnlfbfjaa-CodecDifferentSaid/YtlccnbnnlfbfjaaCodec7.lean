/- Equality of values: codec's and the specification's. -/
import Derived.Test.YtlccnbnnlfbfjaaTypes
import Derived.Test.YtlccnbnnlfbfjaaCodecSame
namespace Go.Proofs.Ytlccnbnnlfbfjaa
open Go
set_option linter.unusedVariables false
set_option linter.unusedSimpArgs false
set_option maxRecDepth 10000

/-- slices.EqualFunc[[]soundpost/api.Value,[]soundpost/api.Value,soundpost/api.Value,soundpost/api.Value] -/
theorem spec35 (l m : List Val) (h4 : l.length ≤ 140737488355328) (h5 : m.length ≤ 140737488355328) (hm : ∀ y ∈ m, y.Sz) (ih : ∀ x ∈ l, ∀ y : Val, y.Sz → FnSpec Try.prog 21 [x.av, y.av] [] (bv (x.same y)) [] []) : FnSpec Try.prog 35 [.d (.rows 4 l.length (Val.row l)), .d (.rows 4 m.length (Val.row m)), .fn 21 []] [] (bv (Val.sames l m)) [] [] := by
  refine fnSpec_of (rs := [.tmp 6]) Try.func35 rfl rfl (Nat.le_of_ble_eq_true rfl) (by simp [St.get]) fun E hk hn => ?_
  apply WPA.seq
  apply WPA.region
  · apply Trace.pu [] (.assign (.plain rfl))
    exact .nil _
  · exact keepOK_of hk hn rfl
  apply WPA.seq
  apply WPA.seq
  apply WPA.region
  · apply Trace.pu [] (.move (.plain rfl))
    apply Trace.pu [] (.len rfl Try.underlying22 (.plain rfl) rfl)
    apply Trace.pu [] (.move (.plain rfl))
    apply Trace.pu [] (.len rfl Try.underlying22 (.plain rfl) rfl)
    apply Trace.pu [] (.cmp (.plain rfl) (.plain rfl) rfl)
    exact .nil _
  · exact keepOK_of hk hn rfl
  refine WPA.cond rfl (fun hc1 => ?_) (fun hc1 => ?_)
  · have hne : l.length ≠ m.length := by simp at hc1; omega
    apply WPA.seq
    apply WPA.region
    · apply Trace.pu [] (.assign (.plain rfl))
      exact .nil _
    · exact keepOK_of hk hn rfl
    apply WPA.ret
    refine ⟨.inr rfl, ⟨_, (.cons (.tmp rfl) .nil), ?_⟩, by simp [St.get]⟩
    rw [Val.sames_false hne]; rfl
  · have heq : l.length = m.length := by simp at hc1; omega
    apply WPA.skip
    apply WPA.seq
    apply WPA.seq
    apply WPA.region
    · apply Trace.pu [] (.move (.plain rfl))
      apply Trace.pu [] (.len rfl Try.underlying22 (.plain rfl) rfl)
      apply Trace.pu [] (.move (.plain rfl))
      exact .nil _
    · exact keepOK_of hk hn rfl
    apply WPA.block
    refine WPA.loop (σ := Nat) (fun i => [(sl 1, .av (.d (.rows 4 m.length (Val.row m)))), (sl 2, .av (.fn 21 [])), (sl 15, .av (.d (.rows 4 l.length (Val.row l)))), (sl 16, .av (iv .i64 l.length)), (sl 17, .av (iv .i64 i))]) (fun i => i ≤ l.length ∧ Val.sames (l.take i) (m.take i) = true) (fun i => l.length - i) 0
      (St.le_cons rfl (St.le_cons rfl (St.le_cons rfl (St.le_cons rfl (St.le_cons rfl (St.le_nil _)))))) ⟨Nat.zero_le _, rfl⟩ fun i hi => ?_
    apply WPA.seq
    apply WPA.region
    · apply Trace.pu [] (.cmp (.plain rfl) (.plain rfl) rfl)
      exact .nil _
    · exact keepOK_of hk hn rfl
    apply WPA.seq
    refine WPA.cond rfl (fun hc2 => ?_) (fun hc2 => ?_)
    · have hlt : i < l.length := by simpa using hc2
      have hlm : i < m.length := by omega
      apply WPA.skip
      apply WPA.seq
      apply WPA.block
      apply WPA.seq
      apply WPA.region
      · apply Trace.pu [] (.move (.plain rfl))
        first | apply Trace.pu [] (.indexRows el22 (.plain rfl) (.plain rfl) (fun _ => ⟨by omega, by omega⟩)) | apply Trace.pu [] (.indexOwn el22 (.plain rfl) (.plain rfl) (fun _ => ⟨by omega, by omega⟩)) | apply Trace.pu [] (.indexSl el22 (.plain rfl) (.plain rfl) (fun _ => ⟨by omega, by omega⟩))
        apply Trace.pu [] ((Pure.loadRp ty24 (.plain rfl) (fun _ => by rw [Val.row_length l _ (by omega)]; exact Nat.le_refl 4)).to (y := (l[i]).av) (by show AV.d (.agg ((Val.row l ((i : Int)).toNat).take 4)) = _; rw [Val.row_take l _ (by omega)]; simp))
        apply Trace.alloc 8 [] (.data _) zo24 (cellsAs_data _) rfl
        apply Trace.pu [] (.assign (.plain rfl))
        first | apply Trace.storeD ty24 (.plain rfl) (.plain rfl) rfl rfl (by simp [Val.cells_length]) (by first | exact Val.cells_one _ | simp [AV.oneB, single]) (by simp [Val.cells_length]) (spliceL_all (by simp [Val.cells_length])) | apply Trace.storeD ty24 (.plain rfl) (.plain rfl) rfl rfl (by simp [Val.cells_length]) (by first | exact Val.cells_one _ | simp [AV.oneB, single]) (by simp [Val.cells_length]) rfl | apply Trace.storeDA ty24 (.plain rfl) (.plain rfl) rfl rfl (by simp [Val.cells_length]) (by simp [AV.oneB, single]) (by simp [Val.cells_length]) rfl | apply Trace.storeLoc ty24 (.plain rfl) (.plain rfl) rfl rfl (by simp [Val.cells_length]) (by simp [AV.oneB, single]) (by simp) rfl | apply Trace.storeRow ty24 (.plain rfl) (.plain rfl) rfl rfl rfl rfl (by decide) (by simp [AV.oneB, single]) rfl (by omega)
        exact .nil _
      · exact keepOK_of hk hn rfl
      apply WPA.seq
      apply WPA.region
      · apply Trace.pu [] (.move (.plain rfl))
        apply Trace.pu [] (.move (.plain rfl))
        first | apply Trace.pu [] (.indexRows el22 (.plain rfl) (.plain rfl) (fun _ => ⟨by omega, by omega⟩)) | apply Trace.pu [] (.indexOwn el22 (.plain rfl) (.plain rfl) (fun _ => ⟨by omega, by omega⟩)) | apply Trace.pu [] (.indexSl el22 (.plain rfl) (.plain rfl) (fun _ => ⟨by omega, by omega⟩))
        apply Trace.pu [] ((Pure.loadRp ty24 (.plain rfl) (fun _ => by rw [Val.row_length m _ (by omega)]; exact Nat.le_refl 4)).to (y := (m[i]).av) (by show AV.d (.agg ((Val.row m ((i : Int)).toNat).take 4)) = _; rw [Val.row_take m _ (by omega)]; simp))
        apply Trace.alloc 9 [] (.data _) zo24 (cellsAs_data _) rfl
        first | apply Trace.storeD ty24 (.plain rfl) (.plain rfl) rfl rfl (by simp [Val.cells_length]) (by first | exact Val.cells_one _ | simp [AV.oneB, single]) (by simp [Val.cells_length]) (spliceL_all (by simp [Val.cells_length])) | apply Trace.storeD ty24 (.plain rfl) (.plain rfl) rfl rfl (by simp [Val.cells_length]) (by first | exact Val.cells_one _ | simp [AV.oneB, single]) (by simp [Val.cells_length]) rfl | apply Trace.storeDA ty24 (.plain rfl) (.plain rfl) rfl rfl (by simp [Val.cells_length]) (by simp [AV.oneB, single]) (by simp [Val.cells_length]) rfl | apply Trace.storeLoc ty24 (.plain rfl) (.plain rfl) rfl rfl (by simp [Val.cells_length]) (by simp [AV.oneB, single]) (by simp) rfl | apply Trace.storeRow ty24 (.plain rfl) (.plain rfl) rfl rfl rfl rfl (by decide) (by simp [AV.oneB, single]) rfl (by omega)
        exact .nil _
      · exact keepOK_of hk hn rfl
      apply WPA.seq
      apply WPA.region
      · apply Trace.pu [] (.move (.plain rfl))
        first | apply Trace.pu [_] (.loadAllD ty24 (.plain rfl) rfl (by simp [Val.cells_length])) | apply Trace.pu [_] (.loadLocD ty24 (.plain rfl) rfl (fun _ => by simp [Val.cells_length])) | apply Trace.pu [_] (.loadLoc ty24 (.plain rfl) rfl (fun _ => Nat.le_of_ble_eq_true rfl)) | apply Trace.pu [] (.loadRp ty24 (.plain rfl) (fun _ => by decide)) | apply Trace.pu [_] (.loadCol ty24 (.plain rfl) rfl rfl (fun _ => by decide) (fun _ => by omega)) | apply Trace.pu [_] (.loadArr ty24 (.plain rfl) rfl)
        first | apply Trace.pu [_] (.loadAllD ty24 (.plain rfl) rfl (by simp [Val.cells_length])) | apply Trace.pu [_] (.loadLocD ty24 (.plain rfl) rfl (fun _ => by simp [Val.cells_length])) | apply Trace.pu [_] (.loadLoc ty24 (.plain rfl) rfl (fun _ => Nat.le_of_ble_eq_true rfl)) | apply Trace.pu [] (.loadRp ty24 (.plain rfl) (fun _ => by decide)) | apply Trace.pu [_] (.loadCol ty24 (.plain rfl) rfl rfl (fun _ => by decide) (fun _ => by omega)) | apply Trace.pu [_] (.loadArr ty24 (.plain rfl) rfl)
        apply Trace.cu (callArgs (.plain rfl) (.cons (.plain rfl) (.cons (.plain rfl) .nil))) (ih l[i] (List.getElem_mem hlt) m[i] (hm _ (List.getElem_mem hlm))) en21
        apply Trace.pu [] (.not (.plain rfl))
        exact .nil _
      · exact keepOK_of hk hn rfl
      refine WPA.cond rfl (fun hc3 => ?_) (fun hc3 => ?_)
      · have hb : Val.same l[i] m[i] = false := by simpa using hc3
        apply WPA.seq
        apply WPA.region
        · apply Trace.pu [] (.assign (.plain rfl))
          exact .nil _
        · exact keepOK_of hk hn rfl
        apply WPA.ret
        refine ⟨.inr rfl, ⟨_, (.cons (.tmp rfl) .nil), ?_⟩, by simp [St.get]⟩
        rw [Val.same_false i hlt hlm hb]; rfl
      · have hb : Val.same l[i] m[i] = true := by simpa using hc3
        apply WPA.skip
        apply WPA.region
        · apply Trace.pu [] (.arith (.plain rfl) (.plain rfl) rfl (fun _ => bd64 (by omega)))
          apply Trace.pu [] (.move (.plain rfl))
          exact .nil _
        · exact keepOK_of hk hn rfl
        exact ⟨i + 1, ⟨by omega, by rw [Val.sames_take i hlt hlm, hi.2, hb]; rfl⟩, by omega, St.le_cons rfl (St.le_cons rfl (St.le_cons rfl (St.le_cons rfl (St.le_cons (iv_eq (by omega)) (St.le_nil _)))))⟩
    · have hil : i = l.length := by
        have h1 := hi.1
        have : ¬ ((i : Int) < l.length) := by simpa using hc2
        omega
      have hs : Val.sames l m = true := by
        have := hi.2
        rwa [hil, List.take_length, heq, List.take_length] at this
      apply WPA.exit
      apply WPA.seq
      apply WPA.region
      · apply Trace.pu [] (.assign (.plain rfl))
        exact .nil _
      · exact keepOK_of hk hn rfl
      apply WPA.ret
      refine ⟨.inr rfl, ⟨_, (.cons (.tmp rfl) .nil), ?_⟩, by simp [St.get]⟩
      rw [hs]; rfl
/-- soundpost/codec.Same -/
theorem spec21 (a : Val) (hz : a.Sz) (b : Val) (hb : b.Sz) : FnSpec Try.prog 21 [a.av, b.av] [] (bv (a.same b)) [] [] := by
  revert b
  induction hz
  rename_i k n s l h1 h2 h3 h4 hm ih
  intro b hb
  induction hb
  rename_i k' n' s' l' g1 g2 g3 g4 gm _
  refine fnSpec_of (rs := [.tmp 4]) Try.func21 rfl rfl (Nat.le_of_ble_eq_true rfl) (by simp [St.get]) fun E hk hn => ?_
  apply WPA.seq
  apply WPA.region
  · first | apply Trace.boxD 2 [] (.plain rfl) rfl rfl | apply Trace.box 2 [] (.plain rfl) rfl rfl rfl
    first | apply Trace.boxD 3 [] (.plain rfl) rfl rfl | apply Trace.box 3 [] (.plain rfl) rfl rfl rfl
    apply Trace.pu [] (.assign (.plain rfl))
    exact .nil _
  · exact keepOK_of hk hn rfl
  apply WPA.seq
  apply WPA.region
  · apply Trace.pu [] (.fieldAddr fl24_0 (.plain rfl) rfl)
    first | apply Trace.pu [_] (.loadLoc1D ty3 (.plain rfl) rfl rfl) | apply Trace.pu [_] (.loadLoc1 ty3 (.plain rfl) rfl rfl) | apply Trace.pu [] (.loadRp1 ty3 (.plain rfl) rfl) | apply Trace.pu [_] (.loadCol1 ty3 (.plain rfl) rfl rfl rfl (fun _ => by omega))
    apply Trace.pu [] (.fieldAddr fl24_0 (.plain rfl) rfl)
    first | apply Trace.pu [_] (.loadLoc1D ty3 (.plain rfl) rfl rfl) | apply Trace.pu [_] (.loadLoc1 ty3 (.plain rfl) rfl rfl) | apply Trace.pu [] (.loadRp1 ty3 (.plain rfl) rfl) | apply Trace.pu [_] (.loadCol1 ty3 (.plain rfl) rfl rfl rfl (fun _ => by omega))
    apply Trace.pu [] (.cmp (.plain rfl) (.plain rfl) rfl)
    apply Trace.pu [] (.move (.plain rfl))
    apply Trace.pg [] rfl (.fieldAddr fl24_1 (.plain rfl) rfl)
    first | apply Trace.pg [_] rfl (.loadLoc1D ty3 (.gd rfl (fun h => h)) rfl rfl) | apply Trace.pg [_] rfl (.loadLoc1 ty3 (.gd rfl (fun h => h)) rfl rfl) | apply Trace.pg [] rfl (.loadRp1 ty3 (.gd rfl (fun h => h)) rfl) | apply Trace.pg [_] rfl (.loadCol1 ty3 (.gd rfl (fun h => h)) rfl rfl rfl (fun _ => by omega))
    apply Trace.pg [] rfl (.fieldAddr fl24_1 (.plain rfl) rfl)
    first | apply Trace.pg [_] rfl (.loadLoc1D ty3 (.gd rfl (fun h => h)) rfl rfl) | apply Trace.pg [_] rfl (.loadLoc1 ty3 (.gd rfl (fun h => h)) rfl rfl) | apply Trace.pg [] rfl (.loadRp1 ty3 (.gd rfl (fun h => h)) rfl) | apply Trace.pg [_] rfl (.loadCol1 ty3 (.gd rfl (fun h => h)) rfl rfl rfl (fun _ => by omega))
    apply Trace.pg [] rfl (.cmp (.gd rfl (fun h => h)) (.gd rfl (fun h => h)) rfl)
    apply Trace.pu [] (.pick (.plain rfl) (.gd rfl (by simp)) (.plain rfl))
    apply Trace.pu [] (.move (.plain rfl))
    apply Trace.pg [] rfl (.fieldAddr fl24_2 (.plain rfl) rfl)
    first | apply Trace.pg [_] rfl (.loadLoc1D ty9 (.gd rfl (fun h => h)) rfl rfl) | apply Trace.pg [_] rfl (.loadLoc1 ty9 (.gd rfl (fun h => h)) rfl rfl) | apply Trace.pg [] rfl (.loadRp1 ty9 (.gd rfl (fun h => h)) rfl) | apply Trace.pg [_] rfl (.loadCol1 ty9 (.gd rfl (fun h => h)) rfl rfl rfl (fun _ => by omega))
    apply Trace.pg [] rfl (.fieldAddr fl24_2 (.plain rfl) rfl)
    first | apply Trace.pg [_] rfl (.loadLoc1D ty9 (.gd rfl (fun h => h)) rfl rfl) | apply Trace.pg [_] rfl (.loadLoc1 ty9 (.gd rfl (fun h => h)) rfl rfl) | apply Trace.pg [] rfl (.loadRp1 ty9 (.gd rfl (fun h => h)) rfl) | apply Trace.pg [_] rfl (.loadCol1 ty9 (.gd rfl (fun h => h)) rfl rfl rfl (fun _ => by omega))
    apply Trace.pg [] rfl (.seq (.gd rfl (fun h => h)) (.gd rfl (fun h => h)))
    apply Trace.pu [] (.pick (.plain rfl) (.gd rfl (by simp)) (.plain rfl))
    apply Trace.pu [] (.move (.plain rfl))
    apply Trace.pg [] rfl (.fieldAddr fl24_3 (.plain rfl) rfl)
    first | apply Trace.pg [_] rfl (.loadLoc1D ty22 (.gd rfl (fun h => h)) rfl rfl) | apply Trace.pg [_] rfl (.loadLoc1 ty22 (.gd rfl (fun h => h)) rfl rfl) | apply Trace.pg [] rfl (.loadRp1 ty22 (.gd rfl (fun h => h)) rfl) | apply Trace.pg [_] rfl (.loadCol1 ty22 (.gd rfl (fun h => h)) rfl rfl rfl (fun _ => by omega))
    apply Trace.pg [] rfl (.fieldAddr fl24_3 (.plain rfl) rfl)
    first | apply Trace.pg [_] rfl (.loadLoc1D ty22 (.gd rfl (fun h => h)) rfl rfl) | apply Trace.pg [_] rfl (.loadLoc1 ty22 (.gd rfl (fun h => h)) rfl rfl) | apply Trace.pg [] rfl (.loadRp1 ty22 (.gd rfl (fun h => h)) rfl) | apply Trace.pg [_] rfl (.loadCol1 ty22 (.gd rfl (fun h => h)) rfl rfl rfl (fun _ => by omega))
    apply Trace.cg rfl (callArgs0 (.cons (.gd rfl (fun h => h)) (.cons (.gd rfl (fun h => h)) (.cons (.plain rfl) .nil)))) (fun h => spec35 l l' h4 g4 gm ih) en35
    apply Trace.pu [] (.pick (.plain rfl) (.gd rfl (by simp)) (.plain rfl))
    apply Trace.pu [] (.assign (.plain rfl))
    exact .nil _
  · exact keepOK_of hk hn rfl
  apply WPA.ret
  refine ⟨.inr rfl, ⟨_, (.cons (.tmp rfl) .nil), ?_⟩, by simp [St.get]⟩
  simp [Val.same, resOf, D.ofV, Bool.cond_eq_ite]
/-- soundpost/soundpostref01.Same -/
theorem spec20 (a : Val) (hz : a.Sz) (b : Val) (hb : b.Sz) : FnSpec Try.prog 20 [a.av, b.av] [] (bv (a.same b)) [] [] := by
  revert b
  induction hz
  rename_i k n s l h1 h2 h3 h4 hm ih
  intro b hb
  induction hb
  rename_i k' n' s' l' g1 g2 g3 g4 gm _
  refine fnSpec_of (rs := [.tmp 4]) Try.func20 rfl rfl (Nat.le_of_ble_eq_true rfl) (by simp [St.get]) fun E hk hn => ?_
  apply WPA.seq
  apply WPA.region
  · first | apply Trace.boxD 2 [] (.plain rfl) rfl rfl | apply Trace.box 2 [] (.plain rfl) rfl rfl rfl
    first | apply Trace.boxD 3 [] (.plain rfl) rfl rfl | apply Trace.box 3 [] (.plain rfl) rfl rfl rfl
    apply Trace.pu [] (.assign (.plain rfl))
    exact .nil _
  · exact keepOK_of hk hn rfl
  apply WPA.seq
  apply WPA.seq
  apply WPA.region
  · apply Trace.pu [] (.fieldAddr fl24_0 (.plain rfl) rfl)
    first | apply Trace.pu [_] (.loadLoc1D ty3 (.plain rfl) rfl rfl) | apply Trace.pu [_] (.loadLoc1 ty3 (.plain rfl) rfl rfl) | apply Trace.pu [] (.loadRp1 ty3 (.plain rfl) rfl) | apply Trace.pu [_] (.loadCol1 ty3 (.plain rfl) rfl rfl rfl (fun _ => by omega))
    apply Trace.pu [] (.fieldAddr fl24_0 (.plain rfl) rfl)
    first | apply Trace.pu [_] (.loadLoc1D ty3 (.plain rfl) rfl rfl) | apply Trace.pu [_] (.loadLoc1 ty3 (.plain rfl) rfl rfl) | apply Trace.pu [] (.loadRp1 ty3 (.plain rfl) rfl) | apply Trace.pu [_] (.loadCol1 ty3 (.plain rfl) rfl rfl rfl (fun _ => by omega))
    apply Trace.pu [] (.cmp (.plain rfl) (.plain rfl) rfl)
    apply Trace.pu [] (.move (.plain rfl))
    apply Trace.pg [] rfl (.fieldAddr fl24_1 (.plain rfl) rfl)
    first | apply Trace.pg [_] rfl (.loadLoc1D ty3 (.gd rfl (fun h => h)) rfl rfl) | apply Trace.pg [_] rfl (.loadLoc1 ty3 (.gd rfl (fun h => h)) rfl rfl) | apply Trace.pg [] rfl (.loadRp1 ty3 (.gd rfl (fun h => h)) rfl) | apply Trace.pg [_] rfl (.loadCol1 ty3 (.gd rfl (fun h => h)) rfl rfl rfl (fun _ => by omega))
    apply Trace.pg [] rfl (.fieldAddr fl24_1 (.plain rfl) rfl)
    first | apply Trace.pg [_] rfl (.loadLoc1D ty3 (.gd rfl (fun h => h)) rfl rfl) | apply Trace.pg [_] rfl (.loadLoc1 ty3 (.gd rfl (fun h => h)) rfl rfl) | apply Trace.pg [] rfl (.loadRp1 ty3 (.gd rfl (fun h => h)) rfl) | apply Trace.pg [_] rfl (.loadCol1 ty3 (.gd rfl (fun h => h)) rfl rfl rfl (fun _ => by omega))
    apply Trace.pg [] rfl (.cmp (.gd rfl (fun h => h)) (.gd rfl (fun h => h)) rfl)
    apply Trace.pu [] (.pick (.plain rfl) (.plain rfl) (.gd rfl (by simp)))
    apply Trace.pu [] (.move (.plain rfl))
    apply Trace.pg [] rfl (.fieldAddr fl24_2 (.plain rfl) rfl)
    first | apply Trace.pg [_] rfl (.loadLoc1D ty9 (.gd rfl (fun h => h)) rfl rfl) | apply Trace.pg [_] rfl (.loadLoc1 ty9 (.gd rfl (fun h => h)) rfl rfl) | apply Trace.pg [] rfl (.loadRp1 ty9 (.gd rfl (fun h => h)) rfl) | apply Trace.pg [_] rfl (.loadCol1 ty9 (.gd rfl (fun h => h)) rfl rfl rfl (fun _ => by omega))
    apply Trace.pg [] rfl (.fieldAddr fl24_2 (.plain rfl) rfl)
    first | apply Trace.pg [_] rfl (.loadLoc1D ty9 (.gd rfl (fun h => h)) rfl rfl) | apply Trace.pg [_] rfl (.loadLoc1 ty9 (.gd rfl (fun h => h)) rfl rfl) | apply Trace.pg [] rfl (.loadRp1 ty9 (.gd rfl (fun h => h)) rfl) | apply Trace.pg [_] rfl (.loadCol1 ty9 (.gd rfl (fun h => h)) rfl rfl rfl (fun _ => by omega))
    apply Trace.pg [] rfl (.sne (.gd rfl (fun h => h)) (.gd rfl (fun h => h)))
    apply Trace.pu [] (.pick (.plain rfl) (.plain rfl) (.gd rfl (by simp)))
    apply Trace.pu [] (.move (.plain rfl))
    apply Trace.pg [] rfl (.fieldAddr fl24_3 (.plain rfl) rfl)
    first | apply Trace.pg [_] rfl (.loadLoc1D ty22 (.gd rfl (fun h => h)) rfl rfl) | apply Trace.pg [_] rfl (.loadLoc1 ty22 (.gd rfl (fun h => h)) rfl rfl) | apply Trace.pg [] rfl (.loadRp1 ty22 (.gd rfl (fun h => h)) rfl) | apply Trace.pg [_] rfl (.loadCol1 ty22 (.gd rfl (fun h => h)) rfl rfl rfl (fun _ => by omega))
    apply Trace.pg [] rfl (.len rfl Try.underlying22 (.gd rfl (fun h => h)) rfl)
    apply Trace.pg [] rfl (.fieldAddr fl24_3 (.plain rfl) rfl)
    first | apply Trace.pg [_] rfl (.loadLoc1D ty22 (.gd rfl (fun h => h)) rfl rfl) | apply Trace.pg [_] rfl (.loadLoc1 ty22 (.gd rfl (fun h => h)) rfl rfl) | apply Trace.pg [] rfl (.loadRp1 ty22 (.gd rfl (fun h => h)) rfl) | apply Trace.pg [_] rfl (.loadCol1 ty22 (.gd rfl (fun h => h)) rfl rfl rfl (fun _ => by omega))
    apply Trace.pg [] rfl (.len rfl Try.underlying22 (.gd rfl (fun h => h)) rfl)
    apply Trace.pg [] rfl (.cmp (.gd rfl (fun h => h)) (.gd rfl (fun h => h)) rfl)
    apply Trace.pu [] (.pick (.plain rfl) (.plain rfl) (.gd rfl (by simp)))
    exact .nil _
  · exact keepOK_of hk hn rfl
  refine WPA.cond rfl (fun hc1 => ?_) (fun hc1 => ?_)
  · have hv : Val.same (.mk k n s l) (.mk k' n' s' l') = false := by
      have hln : l.length ≠ l'.length → Val.sames l l' = false := Val.sames_false
      simp only [Val.same]
      simp at hc1
      grind
    apply WPA.seq
    apply WPA.region
    · apply Trace.pu [] (.assign (.plain rfl))
      exact .nil _
    · exact keepOK_of hk hn rfl
    apply WPA.ret
    refine ⟨.inr rfl, ⟨_, (.cons (.tmp rfl) .nil), ?_⟩, by simp [St.get]⟩
    rw [hv]; rfl
  · have hv : k = k' ∧ n = n' ∧ s = s' ∧ l.length = l'.length := by
      simp at hc1
      grind
    obtain ⟨rfl, rfl, rfl, heq⟩ := hv
    have hval : Val.same (.mk k n s l) (.mk k n s l') = Val.sames l l' := by simp [Val.same]
    apply WPA.skip
    apply WPA.seq
    apply WPA.seq
    apply WPA.region
    · apply Trace.pu [] (.assign (.plain rfl))
      exact .nil _
    · exact keepOK_of hk hn rfl
    apply WPA.block
    refine WPA.loop (σ := Nat) (fun i => [(sl 2, .av (.loc 2 0)), (sl 3, .av (.loc 3 0)), (sl 5, .av (iv .i64 i)), (bk 2, .blk (.data (Val.mk k n s l).cells)), (bk 3, .blk (.data (Val.mk k n s l').cells))]) (fun i => i ≤ l.length ∧ Val.sames (l.take i) (l'.take i) = true) (fun i => l.length - i) 0
      (St.le_cons rfl (St.le_cons rfl (St.le_cons rfl (St.le_cons rfl (St.le_cons rfl (St.le_nil _)))))) ⟨Nat.zero_le _, rfl⟩ fun i hi => ?_
    apply WPA.seq
    apply WPA.seq
    apply WPA.region
    · apply Trace.pu [] (.move (.plain rfl))
      apply Trace.pu [] (.fieldAddr fl24_3 (.plain rfl) rfl)
      first | apply Trace.pu [_] (.loadLoc1D ty22 (.plain rfl) rfl rfl) | apply Trace.pu [_] (.loadLoc1 ty22 (.plain rfl) rfl rfl) | apply Trace.pu [] (.loadRp1 ty22 (.plain rfl) rfl) | apply Trace.pu [_] (.loadCol1 ty22 (.plain rfl) rfl rfl rfl (fun _ => by omega))
      apply Trace.pu [] (.len rfl Try.underlying22 (.plain rfl) rfl)
      apply Trace.pu [] (.cmp (.plain rfl) (.plain rfl) rfl)
      exact .nil _
    · exact keepOK_of hk hn rfl
    refine WPA.cond rfl (fun hc2 => ?_) (fun hc2 => ?_)
    · have hlt : i < l.length := by simpa using hc2
      have hlm : i < l'.length := by omega
      apply WPA.skip
      apply WPA.seq
      apply WPA.block
      apply WPA.seq
      apply WPA.draw mixed
      · apply Trace.pu [] (.fieldAddr fl24_3 (.plain rfl) rfl)
        first | apply Trace.pu [_] (.loadLoc1D ty22 (.plain rfl) rfl rfl) | apply Trace.pu [_] (.loadLoc1 ty22 (.plain rfl) rfl rfl) | apply Trace.pu [] (.loadRp1 ty22 (.plain rfl) rfl) | apply Trace.pu [_] (.loadCol1 ty22 (.plain rfl) rfl rfl rfl (fun _ => by omega))
        apply Trace.pu [] (.move (.plain rfl))
        first | apply Trace.pu [] (.indexRows el22 (.plain rfl) (.plain rfl) (fun _ => ⟨by omega, by omega⟩)) | apply Trace.pu [] (.indexOwn el22 (.plain rfl) (.plain rfl) (fun _ => ⟨by omega, by omega⟩)) | apply Trace.pu [] (.indexSl el22 (.plain rfl) (.plain rfl) (fun _ => ⟨by omega, by omega⟩))
        apply Trace.pu [] ((Pure.loadRp ty24 (.plain rfl) (fun _ => by rw [Val.row_length l _ (by omega)]; exact Nat.le_refl 4)).to (y := (l[i]).av) (by show AV.d (.agg ((Val.row l ((i : Int)).toNat).take 4)) = _; rw [Val.row_take l _ (by omega)]; simp))
        apply Trace.pu [] (.fieldAddr fl24_3 (.plain rfl) rfl)
        first | apply Trace.pu [_] (.loadLoc1D ty22 (.plain rfl) rfl rfl) | apply Trace.pu [_] (.loadLoc1 ty22 (.plain rfl) rfl rfl) | apply Trace.pu [] (.loadRp1 ty22 (.plain rfl) rfl) | apply Trace.pu [_] (.loadCol1 ty22 (.plain rfl) rfl rfl rfl (fun _ => by omega))
        apply Trace.pu [] (.move (.plain rfl))
        first | apply Trace.pu [] (.indexRows el22 (.plain rfl) (.plain rfl) (fun _ => ⟨by omega, by omega⟩)) | apply Trace.pu [] (.indexOwn el22 (.plain rfl) (.plain rfl) (fun _ => ⟨by omega, by omega⟩)) | apply Trace.pu [] (.indexSl el22 (.plain rfl) (.plain rfl) (fun _ => ⟨by omega, by omega⟩))
        apply Trace.pu [] ((Pure.loadRp ty24 (.plain rfl) (fun _ => by rw [Val.row_length l' _ (by omega)]; exact Nat.le_refl 4)).to (y := (l'[i]).av) (by show AV.d (.agg ((Val.row l' ((i : Int)).toNat).take 4)) = _; rw [Val.row_take l' _ (by omega)]; simp))
        apply Trace.cu (callArgs0 (.cons (.plain rfl) (.cons (.plain rfl) .nil))) (ih l[i] (List.getElem_mem hlt) l'[i] (gm _ (List.getElem_mem hlm))) en20
        apply Trace.pu [] (.not (.plain rfl))
        exact .nil _
      · rfl
      · exact keepOK_of hk hn rfl
      refine WPA.cond rfl (fun hc3 => ?_) (fun hc3 => ?_)
      · have hb : Val.same l[i] l'[i] = false := by simpa using hc3
        apply WPA.seq
        apply WPA.region
        · apply Trace.pu [] (.assign (.plain rfl))
          exact .nil _
        · exact keepOK_of hk hn rfl
        apply WPA.ret
        refine ⟨.inr rfl, ⟨_, (.cons (.tmp rfl) .nil), ?_⟩, by simp [St.get]⟩
        rw [hval, Val.same_false i hlt hlm hb]; rfl
      · have hb : Val.same l[i] l'[i] = true := by simpa using hc3
        apply WPA.skip
        apply WPA.region
        · apply Trace.pu [] (.move (.plain rfl))
          apply Trace.pu [] (.arith (.plain rfl) (.plain rfl) rfl (fun _ => bd64 (by omega)))
          apply Trace.pu [] (.assign (.plain rfl))
          exact .nil _
        · exact keepOK_of hk hn rfl
        exact ⟨i + 1, ⟨by omega, by rw [Val.sames_take i hlt hlm, hi.2, hb]; rfl⟩, by omega, St.le_cons rfl (St.le_cons rfl (St.le_cons (iv_eq (by omega)) (St.le_cons rfl (St.le_cons rfl (St.le_nil _)))))⟩
    · have hil : i = l.length := by
        have h1 := hi.1
        have : ¬ ((i : Int) < l.length) := by simpa using hc2
        omega
      have hs : Val.sames l l' = true := by
        have := hi.2
        rwa [hil, List.take_length, heq, List.take_length] at this
      apply WPA.exit
      apply WPA.seq
      apply WPA.region
      · apply Trace.pu [] (.assign (.plain rfl))
        exact .nil _
      · exact keepOK_of hk hn rfl
      apply WPA.ret
      refine ⟨.inr rfl, ⟨_, (.cons (.tmp rfl) .nil), ?_⟩, by simp [St.get]⟩
      rw [hval, hs]; rfl

end Go.Proofs.Ytlccnbnnlfbfjaa

