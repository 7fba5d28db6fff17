/- Least and Make of the program. -/
import Derived.Test.YtkieenlidehdgaaPlan7F
namespace Go.Proofs.Ytkieenlidehdgaa
open Go
set_option linter.unusedVariables false
set_option linter.unusedSimpArgs false
set_option maxRecDepth 10000
set_option maxHeartbeats 1000000

def Gr.leastP (g : Gr) : List Int × Int := if g.check ≠ 0 then ([], g.check) else (g.low, 0)
noncomputable def Gr.makeP (g : Gr) : Pl × Int := if g.check ≠ 0 then (Pl.none, g.check) else (g.planOf g.best, 0)
def Gr.wsTo (g : Gr) (i : Nat) : List Int := (List.range g.es.length).map fun k => if k < i then (g.ed k).w else 0
theorem wsTo_length (g : Gr) (i : Nat) : (g.wsTo i).length = g.es.length := by simp [Gr.wsTo]
theorem wsTo_at (g : Gr) (i : Nat) {k : Nat} (hk : k < g.es.length) : fn (g.wsTo i) k = if k < i then (g.ed k).w else 0 := by
  show (g.wsTo i).getD k 0 = _
  rw [getD_lt _ _ (by rw [wsTo_length]; exact hk)]
  simp [Gr.wsTo]
theorem wsTo_zero (g : Gr) : g.wsTo 0 = List.replicate g.es.length 0 := ext_fn (by simp [Gr.wsTo]) fun k hk => by
  rw [wsTo_length] at hk
  rw [wsTo_at g 0 hk, if_neg (by omega)]
  exact (zeros_at g k).symm
theorem wsTo_end (g : Gr) : g.wsTo g.es.length = g.ws := ext_fn (by simp [Gr.wsTo, Gr.ws]) fun k hk => by
  rw [wsTo_length] at hk
  rw [wsTo_at g _ hk, if_pos hk]
  exact (ws_at hk).symm
theorem wsTo_succ (g : Gr) {i : Nat} (hi : i < g.es.length) : g.wsTo (i + 1) = (g.wsTo i).set i (g.ed i).w := ext_fn (by simp [Gr.wsTo]) fun k hk => by
  rw [wsTo_length] at hk
  rw [wsTo_at g _ hk]
  show _ = ((g.wsTo i).set i (g.ed i).w).getD k 0
  rw [getD_set (by rw [wsTo_length]; exact hi)]
  have h2 := wsTo_at g i hk
  unfold fn at h2
  rw [h2]
  by_cases e : i = k
  · subst e; rw [if_pos (by omega), if_pos rfl]
  · rw [if_neg e]
    by_cases h : k < i
    · rw [if_pos (by omega), if_pos h]
    · rw [if_neg (by omega), if_neg h]
theorem quiet_atOK {g : Gr} (h : g.OK) (hsm : g.Small) {fl : List Int} (hq : (g.net fl).run.node < 0) : AtOK g (g.net fl).run.at_ := by
  refine ⟨(quiet_pos h hq).1, fun v => ?_⟩
  have h1 := lrun_top (net_ok h fl) v
  have h2 := net_len g fl
  have h3 : (((g.net fl).n + 1) * (g.net fl).as.length : Nat) ≤ 1001 * 2000 := Nat.mul_le_mul (by have := hsm.n; show g.lat.length + 1 ≤ _; omega) (by have := hsm.m; omega)
  have h4 : (g.net fl).run.A v = (g.net fl).run.at_.getD v 0 := rfl
  rw [h4] at h1
  generalize ((g.net fl).n + 1) * (g.net fl).as.length = q at h1 h3
  omega
theorem arc_row {c : List Arc} {i : Nat} (hi : i < c.length) : (arcCols c).map (Col.at · i) = (c.getD i default).ds := by
  simp only [arcCols, List.map_cons, List.map_nil, Col.at]
  rw [mapF hi, mapT hi, mapB hi, mapE hi, mapK hi]
/-- soundpost/plan.Least -/
theorem spec12 (g : Gr) (hz : g.Sz) : FnSpec Try.prog 12 [g.av] [] (.tup [.d (intsD g.leastP.1), iv .i64 g.leastP.2]) [] [] := by
  have hn1 := hz.n
  have hn2 := hz.m
  refine fnSpec_of (rs := [.tmp 2, .tmp 3]) Try.func12 rfl rfl (Nat.le_of_ble_eq_true rfl) (by simp [St.get]) fun E hk hn => ?_
  apply WPA.seq
  apply WPA.region
  · first | apply Trace.boxD 1 [] (.plain rfl) rfl rfl | apply Trace.box 1 [] (.plain rfl) rfl rfl rfl
    apply Trace.pu [] (.assign (.plain rfl))
    apply Trace.pu [] (.assign (.plain rfl))
    exact .nil _
  · exact keepOK_of hk hn rfl
  apply WPA.seq
  apply WPA.seq
  apply WPA.region
  · first | apply Trace.pu [_] (.loadAllD ty25 (.plain rfl) rfl (by simp)) | apply Trace.pu [_] (.loadLocD ty25 (.plain rfl) rfl (fun _ => by simp)) | apply Trace.pu [_] (.loadLoc ty25 (.plain rfl) rfl (fun _ => Nat.le_of_ble_eq_true rfl)) | apply Trace.pu [] (.loadRp ty25 (.plain rfl) (fun _ => by decide)) | apply Trace.pu [] (.loadRp ty25 (.plain rfl) (fun _ => Nat.le_of_ble_eq_true rfl)) | apply Trace.pu [_] (.loadCol ty25 (.plain rfl) rfl rfl (fun _ => by decide) (fun _ => by omega)) | apply Trace.pu [_] (.loadArr ty25 (.plain rfl) rfl)
    apply Trace.cu (callArgs0 (.cons (.plain rfl) .nil)) (spec21 g hz) en21
    apply Trace.pu [] (.assign (.plain rfl))
    exact .nil _
  · exact keepOK_of hk hn rfl
  apply WPA.seq
  apply WPA.region
  · apply Trace.pu [] (.move (.plain rfl))
    apply Trace.pu [] (.cmp (.plain rfl) (.plain rfl) rfl)
    exact .nil _
  · exact keepOK_of hk hn rfl
  refine WPA.cond rfl (fun hc1 => ?_) (fun hc1 => ?_)
  · have hC : g.check ≠ 0 := by simpa using hc1
    have hM : g.leastP = ([], g.check) := by unfold Gr.leastP; rw [if_pos hC]
    apply WPA.seq
    apply WPA.region
    · apply Trace.pu [] (.move (.plain rfl))
      apply Trace.pu [] (.assign (.plain rfl))
      apply Trace.pu [] (.assign (.plain rfl))
      exact .nil _
    · exact keepOK_of hk hn rfl
    refine WPA.ghost (Ghost.slot (t := 2) (x := .d (.v (.slice none 0 0))) (y := .d (intsD [])) rfl den_emp) ?_
    apply WPA.ret
    refine ⟨.inr rfl, ⟨_, (.cons (.tmp rfl) (.cons (.tmp rfl) .nil)), ?_⟩, by simp [St.get]⟩
    rw [hM]; rfl
  · have hC : g.check = 0 := by simpa using hc1
    have hok := g.ok_of (check_formed hC)
    have hq := zeros_quiet hok (check_short hC)
    have hm := hok.m
    have hA : lresA g g.zeros = intsD g.low := by unfold lresA; rw [if_pos hq]; rfl
    have hM : g.leastP = (g.low, 0) := by unfold Gr.leastP; rw [if_neg (by rw [hC]; decide)]
    apply WPA.skip
    apply WPA.seq
    apply WPA.draw mixed
    · first | apply Trace.pu [_] (.loadAllD ty25 (.plain rfl) rfl (by simp)) | apply Trace.pu [_] (.loadLocD ty25 (.plain rfl) rfl (fun _ => by simp)) | apply Trace.pu [_] (.loadLoc ty25 (.plain rfl) rfl (fun _ => Nat.le_of_ble_eq_true rfl)) | apply Trace.pu [] (.loadRp ty25 (.plain rfl) (fun _ => by decide)) | apply Trace.pu [] (.loadRp ty25 (.plain rfl) (fun _ => Nat.le_of_ble_eq_true rfl)) | apply Trace.pu [_] (.loadCol ty25 (.plain rfl) rfl rfl (fun _ => by decide) (fun _ => by omega)) | apply Trace.pu [_] (.loadArr ty25 (.plain rfl) rfl)
      apply Trace.pu [] (.fieldAddr fl25_1 (.plain rfl) rfl)
      first | apply Trace.pu [_] (.loadLoc1D ty23 (.plain rfl) rfl rfl) | apply Trace.pu [_] (.loadLoc1 ty23 (.plain rfl) rfl rfl) | apply Trace.pu [] (.loadRp1 ty23 (.plain rfl) rfl) | apply Trace.pu [_] (.loadCol1 ty23 (.plain rfl) rfl rfl rfl (fun _ => by omega))
      apply Trace.pu [] (.len rfl Try.underlying23 (.plain rfl) rfl)
      apply Trace.makeSlice 15 [] so22 by3 zo3 rfl (by decide) (.plain rfl) (.plain rfl) ⟨by omega, by omega⟩ (by omega) (by omega) rfl rfl
      apply Trace.cb [] [bk 15, sl 15] (callArgs0 (.cons (.plain rfl) (.cons (.plain rfl) .nil))) ((spec24 hok (fl := g.zeros) (by simp [Gr.zeros])).as 0 15 rfl rfl rfl rfl rfl rfl rfl) en24 (.cons rfl .nil) rfl rfl
      apply Trace.pu [] (.move (.plain rfl))
      apply Trace.pu [] (.extract (.plain rfl) rfl)
      apply Trace.pu [] (.extract (.plain rfl) rfl)
      apply Trace.pu [] (.assign (.plain rfl))
      exact .nil _
    · rfl
    · exact keepOK_of hk hn rfl
    apply WPA.seq
    apply WPA.region
    · apply Trace.pu [] (.move (.plain rfl))
      apply Trace.pu [] (.assign (.plain rfl))
      apply Trace.pu [] (.assign (.plain rfl))
      exact .nil _
    · exact keepOK_of hk hn rfl
    apply WPA.ret
    refine ⟨.inr rfl, ⟨_, (.cons (.tmp rfl) (.cons (.tmp rfl) .nil)), ?_⟩, by simp [St.get]⟩
    rw [hM, ← hA]; rfl

/-- soundpost/plan.Make -/
theorem spec19 (g : Gr) (hz : g.Sz) (hsm : g.check = 0 → g.Small) : FnSpec Try.prog 19 [g.av] [] (.tup [.d g.makeP.1.d, iv .i64 g.makeP.2]) [] [] := by
  have hn1 := hz.n
  have hn2 := hz.m
  refine fnSpec_of (rs := [.cell 2 32, .tmp 3]) Try.func19 rfl rfl (Nat.le_of_ble_eq_true rfl) (by simp [St.get]) fun E hk hn => ?_
  apply WPA.seq
  apply WPA.region
  · first | apply Trace.boxD 1 [] (.plain rfl) rfl rfl | apply Trace.box 1 [] (.plain rfl) rfl rfl rfl
    apply Trace.alloc 2 [] (.data _) zo32 (cellsAs_data _) rfl
    apply Trace.pu [] (.assign (.plain rfl))
    exact .nil _
  · exact keepOK_of hk hn rfl
  apply WPA.seq
  apply WPA.seq
  apply WPA.region
  · first | apply Trace.pu [_] (.loadAllD ty25 (.plain rfl) rfl (by simp)) | apply Trace.pu [_] (.loadLocD ty25 (.plain rfl) rfl (fun _ => by simp)) | apply Trace.pu [_] (.loadLoc ty25 (.plain rfl) rfl (fun _ => Nat.le_of_ble_eq_true rfl)) | apply Trace.pu [] (.loadRp ty25 (.plain rfl) (fun _ => by decide)) | apply Trace.pu [] (.loadRp ty25 (.plain rfl) (fun _ => Nat.le_of_ble_eq_true rfl)) | apply Trace.pu [_] (.loadCol ty25 (.plain rfl) rfl rfl (fun _ => by decide) (fun _ => by omega)) | apply Trace.pu [_] (.loadArr ty25 (.plain rfl) rfl)
    apply Trace.cu (callArgs0 (.cons (.plain rfl) .nil)) (spec21 g hz) en21
    apply Trace.pu [] (.assign (.plain rfl))
    exact .nil _
  · exact keepOK_of hk hn rfl
  apply WPA.seq
  apply WPA.region
  · apply Trace.pu [] (.move (.plain rfl))
    apply Trace.pu [] (.cmp (.plain rfl) (.plain rfl) rfl)
    exact .nil _
  · exact keepOK_of hk hn rfl
  refine WPA.cond rfl (fun hc1 => ?_) (fun hc1 => ?_)
  · have hC : g.check ≠ 0 := by simpa using hc1
    have hM : g.makeP = (Pl.none, g.check) := by unfold Gr.makeP; rw [if_pos hC]
    apply WPA.seq
    apply WPA.region
    · apply Trace.pu [] (.build zo32 pl32 (.nil _ _) rfl)
      apply Trace.pu [] (.move (.plain rfl))
      first | apply Trace.storeD ty32 (.plain rfl) (.plain rfl) rfl rfl (by simp) (by simp [AV.oneB, single, intsD, rowsD]) (by simp) (spliceL_all (by simp)) | apply Trace.storeD ty32 (.plain rfl) (.plain rfl) rfl rfl (by simp) (by simp [AV.oneB, single, intsD, rowsD]) (by simp) rfl | apply Trace.storeDA ty32 (.plain rfl) (.plain rfl) rfl rfl (by simp) (by simp [AV.oneB, single]) (by simp) rfl | apply Trace.storeLoc ty32 (.plain rfl) (.plain rfl) rfl rfl (by simp) (by simp [AV.oneB, single]) (by simp) rfl | apply Trace.storeRow ty32 (.plain rfl) (.plain rfl) rfl rfl rfl rfl (by decide) (by simp [AV.oneB, single]) rfl (by omega)
      apply Trace.pu [] (.assign (.plain rfl))
      exact .nil _
    · exact keepOK_of hk hn rfl
    refine WPA.ghost (Ghost.dataLe (l := 2) rfl (.rows (n := 1) (g := fun i => [Col.at (.ints .i64 []) i]) (.rows (n := 1) (g := fun i => [Col.at (.ints .i64 []) i]) (.same .nil)))) ?_
    apply WPA.ret
    refine ⟨.inr rfl, ⟨_, (.cons (.cellD rfl rfl ty32 rfl) (.cons (.tmp rfl) .nil)), ?_⟩, by simp [St.get]⟩
    rw [hM]; rfl
  · have hC : g.check = 0 := by simpa using hc1
    have hok := g.ok_of (check_formed hC)
    have hsh := check_short hC
    have hsm := hsm hC
    have hm := hok.m
    have hM : g.makeP = (g.planOf g.best, 0) := by unfold Gr.makeP; rw [if_neg (by rw [hC]; decide)]
    obtain ⟨K, hK, hBest⟩ := best_mk hok hsh
    apply WPA.skip
    apply WPA.seq
    apply WPA.region
    · apply Trace.pu [] (.fieldAddr fl25_1 (.plain rfl) rfl)
      first | apply Trace.pu [_] (.loadLoc1D ty23 (.plain rfl) rfl rfl) | apply Trace.pu [_] (.loadLoc1 ty23 (.plain rfl) rfl rfl) | apply Trace.pu [] (.loadRp1 ty23 (.plain rfl) rfl) | apply Trace.pu [_] (.loadCol1 ty23 (.plain rfl) rfl rfl rfl (fun _ => by omega))
      apply Trace.pu [] (.len rfl Try.underlying23 (.plain rfl) rfl)
      apply Trace.makeSlice 24 [] so22 by3 zo3 rfl (by decide) (.plain rfl) (.plain rfl) ⟨by omega, by omega⟩ (by omega) (by omega) rfl rfl
      apply Trace.pu [] (.assign (.plain rfl))
      exact .nil _
    · exact keepOK_of hk hn rfl
    apply WPA.seq
    apply WPA.seq
    apply WPA.region
    · apply Trace.pu [] (.fieldAddr fl25_1 (.plain rfl) rfl)
      first | apply Trace.pu [_] (.loadLoc1D ty23 (.plain rfl) rfl rfl) | apply Trace.pu [_] (.loadLoc1 ty23 (.plain rfl) rfl rfl) | apply Trace.pu [] (.loadRp1 ty23 (.plain rfl) rfl) | apply Trace.pu [_] (.loadCol1 ty23 (.plain rfl) rfl rfl rfl (fun _ => by omega))
      apply Trace.pu [] (.len rfl Try.underlying23 (.plain rfl) rfl)
      apply Trace.pu [] (.move (.plain rfl))
      exact .nil _
    · exact keepOK_of hk hn rfl
    apply WPA.block
    refine WPA.loop (σ := Nat) (fun i => [(sl 1, .av (.loc 1 0)), (sl 2, .av (.loc 2 0)), (sl 5, .av (.own 24 g.es.length)), (sl 26, .av (.d (edgesD g.es))), (sl 27, .av (iv .i64 (g.es.length))), (sl 28, .av (iv .i64 (i))), (bk 1, .blk (.data g.ds)), (bk 2, .blk (.data [.v (.slice none 0 0), .v (.slice none 0 0), .v (.int .i64 0)])), (bk 24, .blk (.app 1 g.es.length [.ints .i64 (g.wsTo i)]))]) (fun i => i ≤ g.es.length) (fun i => g.es.length - i) 0
      (St.le_cons rfl (St.le_cons rfl (St.le_cons rfl (St.le_cons rfl (St.le_cons rfl (St.le_cons rfl (St.le_cons rfl (St.le_cons rfl (St.le_cons (app_eq64 (wsTo_zero g).symm) (St.le_nil _)))))))))) (Nat.zero_le _) fun i hi => ?_
    apply WPA.seq
    apply WPA.region
    · apply Trace.pu [] (.cmp (.plain rfl) (.plain rfl) rfl)
      exact .nil _
    · exact keepOK_of hk hn rfl
    apply WPA.seq
    refine WPA.cond rfl (fun hc2 => ?_) (fun hc2 => ?_)
    · have hlt : i < g.es.length := by simpa using hc2
      obtain ⟨e, he⟩ : ∃ e, g.es.getD i default = e := ⟨_, rfl⟩
      have hwl := wsTo_length g i
      apply WPA.skip
      apply WPA.seq
      apply WPA.block
      apply WPA.seq
      apply WPA.region
      · apply Trace.pu [] (.move (.plain rfl))
        apply Trace.pu [] ((Pure.indexRows el23 (.plain rfl) (.plain rfl) (fun _ => ⟨by omega, by omega⟩)).to (y := .rp e.ds) (by show AV.rp (g.es.getD i default).ds = _; rw [he]))
        first | apply Trace.pu [_] (.loadAllD ty44 (.plain rfl) rfl (by simp)) | apply Trace.pu [_] (.loadLocD ty44 (.plain rfl) rfl (fun _ => by simp)) | apply Trace.pu [_] (.loadLoc ty44 (.plain rfl) rfl (fun _ => Nat.le_of_ble_eq_true rfl)) | apply Trace.pu [] (.loadRp ty44 (.plain rfl) (fun _ => by decide)) | apply Trace.pu [] (.loadRp ty44 (.plain rfl) (fun _ => Nat.le_of_ble_eq_true rfl)) | apply Trace.pu [_] (.loadCol ty44 (.plain rfl) rfl rfl (fun _ => by decide) (fun _ => by omega)) | apply Trace.pu [_] (.loadArr ty44 (.plain rfl) rfl)
        apply Trace.alloc 7 [] (.data _) zo44 (cellsAs_data _) rfl
        apply Trace.pu [] (.assign (.plain rfl))
        first | apply Trace.storeD ty44 (.plain rfl) (.plain rfl) rfl rfl (by simp) (by simp [AV.oneB, single, intsD, rowsD]) (by simp) (spliceL_all (by simp)) | apply Trace.storeD ty44 (.plain rfl) (.plain rfl) rfl rfl (by simp) (by simp [AV.oneB, single, intsD, rowsD]) (by simp) rfl | apply Trace.storeDA ty44 (.plain rfl) (.plain rfl) rfl rfl (by simp) (by simp [AV.oneB, single]) (by simp) rfl | apply Trace.storeLoc ty44 (.plain rfl) (.plain rfl) rfl rfl (by simp) (by simp [AV.oneB, single]) (by simp) rfl | apply Trace.storeRow ty44 (.plain rfl) (.plain rfl) rfl rfl rfl rfl (by decide) (by simp [AV.oneB, single]) rfl (by omega)
        exact .nil _
      · exact keepOK_of hk hn rfl
      apply WPA.region
      · apply Trace.pu [] (.move (.plain rfl))
        apply Trace.pu [] (.move (.plain rfl))
        apply Trace.pu [] (.fieldAddr fl44_2 (.plain rfl) rfl)
        first | apply Trace.pu [_] (.loadLoc1D ty3 (.plain rfl) rfl rfl) | apply Trace.pu [_] (.loadLoc1 ty3 (.plain rfl) rfl rfl) | apply Trace.pu [] (.loadRp1 ty3 (.plain rfl) rfl) | apply Trace.pu [_] (.loadCol1 ty3 (.plain rfl) rfl rfl rfl (fun _ => by omega))
        first | apply Trace.pu [] (.indexRows el22 (.plain rfl) (.plain rfl) (fun _ => ⟨by omega, by omega⟩)) | apply Trace.pu [] (.indexOwn el22 (.plain rfl) (.plain rfl) (fun _ => ⟨by omega, by omega⟩)) | apply Trace.pu [] (.indexSl el22 (.plain rfl) (.plain rfl) (fun _ => ⟨by omega, by omega⟩))
        first | apply Trace.storeD ty3 (.plain rfl) (.plain rfl) rfl rfl rfl (by simp [AV.oneB, single]) (Nat.le_of_ble_eq_true rfl) rfl | apply Trace.storeDA ty3 (.plain rfl) (.plain rfl) rfl rfl rfl (by simp [AV.oneB, single]) (Nat.le_of_ble_eq_true rfl) rfl | apply Trace.storeLoc ty3 (.plain rfl) (.plain rfl) rfl rfl rfl (by simp [AV.oneB, single]) (Nat.le_of_ble_eq_true rfl) rfl | apply Trace.storeRow ty3 (.plain rfl) (.plain rfl) rfl rfl rfl rfl (by decide) (by simp [AV.oneB, single]) rfl (by omega)
        exact .nil _
      · exact keepOK_of hk hn rfl
      apply WPA.region
      · apply Trace.pu [] (.arith (.plain rfl) (.plain rfl) rfl (fun _ => bd64 (by omega)))
        apply Trace.pu [] (.move (.plain rfl))
        exact .nil _
      · exact keepOK_of hk hn rfl
      exact ⟨i + 1, by omega, by omega, St.le_cons rfl (St.le_cons rfl (St.le_cons rfl (St.le_cons rfl (St.le_cons rfl (St.le_cons (slI (by omega)) (St.le_cons rfl (St.le_cons rfl (St.le_cons (app_eq64 (by rw [wsTo_succ g hlt]; show _ = (g.wsTo i).set i (g.es.getD i default).w; rw [he]; rfl)) (St.le_nil _)))))))))⟩
    · have hin : i = g.es.length := by
        have : ¬ ((i : Int) < g.es.length) := by simpa using hc2
        omega
      subst hin
      apply WPA.exit
      apply WPA.block
      refine WPA.loop (σ := Nat × List Int) (fun y => [(sl 1, .av (.loc 1 0)), (sl 2, .av (.loc 2 0)), (sl 5, .av (.own 24 g.es.length)), (bk 1, .blk (.data g.ds)), (bk 2, .blk (.data [.v (.slice none 0 0), .v (.slice none 0 0), .v (.int .i64 0)])), (bk 24, .blk (.app 1 g.es.length [.ints .i64 (y.2)]))]) (fun y => g.mkP y.1 y.2 = some g.best ∧ Flow g y.2) (fun y => y.1) (K, g.ws) (St.le_cons rfl (St.le_cons rfl (St.le_cons rfl (St.le_cons rfl (St.le_cons rfl (St.le_cons (app_eq64 (wsTo_end g)) (St.le_nil _))))))) ⟨hK, flow_ws hok⟩ fun y hy => ?_
      obtain ⟨k, fl⟩ := y
      obtain ⟨hmk, hf⟩ := hy
      have hf : Flow g fl := hf
      have hmk : g.mkP k fl = some g.best := hmk
      apply WPA.block
      apply WPA.seq
      apply WPA.region
      · first | apply Trace.pu [_] (.loadAllD ty25 (.plain rfl) rfl (by simp)) | apply Trace.pu [_] (.loadLocD ty25 (.plain rfl) rfl (fun _ => by simp)) | apply Trace.pu [_] (.loadLoc ty25 (.plain rfl) rfl (fun _ => Nat.le_of_ble_eq_true rfl)) | apply Trace.pu [] (.loadRp ty25 (.plain rfl) (fun _ => by decide)) | apply Trace.pu [] (.loadRp ty25 (.plain rfl) (fun _ => Nat.le_of_ble_eq_true rfl)) | apply Trace.pu [_] (.loadCol ty25 (.plain rfl) rfl rfl (fun _ => by decide) (fun _ => by omega)) | apply Trace.pu [_] (.loadArr ty25 (.plain rfl) rfl)
        apply Trace.pu [] (.move (.plain rfl))
        apply Trace.cb [] [bk 24] (callArgs0 (.cons (.plain rfl) (.cons (.plain rfl) .nil))) ((spec24 hok hf.len).as 0 24 rfl rfl rfl rfl rfl rfl rfl) en24 (.cons rfl .nil) rfl rfl
        apply Trace.pu [] (.move (.plain rfl))
        apply Trace.pu [] (.extract (.plain rfl) rfl)
        apply Trace.pu [] (.extract (.plain rfl) rfl)
        apply Trace.pu [] (.assign (.plain rfl))
        apply Trace.pu [] (.assign (.plain rfl))
        exact .nil _
      · exact keepOK_of hk hn rfl
      apply WPA.seq
      apply WPA.seq
      rcases Decidable.em ((g.net fl).run.node < 0) with hq | hq
      · have hA : lresA g fl = intsD (g.net fl).run.at_ := if_pos hq
        have hCy : lresC g fl = .v (.slice none 0 0) := if_pos hq
        have hbst : (g.net fl).run.at_ = g.best := by
          cases k with
          | zero => cases hmk
          | succ k =>
            have hmk : (if (g.net fl).run.node < 0 then some (g.net fl).run.at_ else g.mkP k (cancel fl (g.net fl).cyc)) = some g.best := hmk
            rw [if_pos hq] at hmk
            injection hmk
        have hat := quiet_atOK hok hsm hq
        refine WPA.weaken (T := [(sl 1, .av (.loc 1 0)), (sl 2, .av (.loc 2 0)), (sl 8, .av (.d (intsD (g.net fl).run.at_))), (sl 9, .av (.d (.v (.slice none 0 0)))), (bk 1, .blk (.data g.ds)), (bk 2, .blk (.data [.v (.slice none 0 0), .v (.slice none 0 0), .v (.int .i64 0)]))]) ?_ (St.le_cons rfl (St.le_cons rfl (St.le_cons (d_eq hA) (St.le_cons (d_eq hCy) (St.le_cons rfl (St.le_cons rfl (St.le_nil _)))))))
        apply WPA.region
        · apply Trace.pu [] (.move (.plain rfl))
          apply Trace.pu [] (.eqNilV Try.underlying51 (.plain rfl) (.plain rfl))
          exact .nil _
        · exact keepOK_of hk hn rfl
        refine WPA.cond rfl (fun hc3 => ?_) (fun hc3 => ?_)
        · apply WPA.seq
          apply WPA.region
          · apply Trace.pu [] (.move (.plain rfl))
            first | apply Trace.pu [_] (.loadAllD ty25 (.plain rfl) rfl (by simp)) | apply Trace.pu [_] (.loadLocD ty25 (.plain rfl) rfl (fun _ => by simp)) | apply Trace.pu [_] (.loadLoc ty25 (.plain rfl) rfl (fun _ => Nat.le_of_ble_eq_true rfl)) | apply Trace.pu [] (.loadRp ty25 (.plain rfl) (fun _ => by decide)) | apply Trace.pu [] (.loadRp ty25 (.plain rfl) (fun _ => Nat.le_of_ble_eq_true rfl)) | apply Trace.pu [_] (.loadCol ty25 (.plain rfl) rfl rfl (fun _ => by decide) (fun _ => by omega)) | apply Trace.pu [_] (.loadArr ty25 (.plain rfl) rfl)
            apply Trace.cu (callArgs0 (.cons (.plain rfl) (.cons (.plain rfl) .nil))) (spec30 hok hat) en30
            first | apply Trace.storeD ty32 (.plain rfl) (.plain rfl) rfl rfl (by simp) (by simp [AV.oneB, single, intsD, rowsD]) (by simp) (spliceL_all (by simp)) | apply Trace.storeD ty32 (.plain rfl) (.plain rfl) rfl rfl (by simp) (by simp [AV.oneB, single, intsD, rowsD]) (by simp) rfl | apply Trace.storeDA ty32 (.plain rfl) (.plain rfl) rfl rfl (by simp) (by simp [AV.oneB, single]) (by simp) rfl | apply Trace.storeLoc ty32 (.plain rfl) (.plain rfl) rfl rfl (by simp) (by simp [AV.oneB, single]) (by simp) rfl | apply Trace.storeRow ty32 (.plain rfl) (.plain rfl) rfl rfl rfl rfl (by decide) (by simp [AV.oneB, single]) rfl (by omega)
            apply Trace.pu [] (.assign (.plain rfl))
            exact .nil _
          · exact keepOK_of hk hn rfl
          apply WPA.ret
          refine ⟨.inr rfl, ⟨_, (.cons (.cellD rfl rfl ty32 rfl) (.cons (.tmp rfl) .nil)), ?_⟩, by simp [St.get]⟩
          rw [hM, ← hbst]; rfl
        · cases hc3
      · obtain ⟨k', hk', hmk'⟩ : ∃ k', k = k' + 1 ∧ g.mkP k' (cancel fl (g.net fl).cyc) = some g.best := by
          cases k with
          | zero => cases hmk
          | succ k =>
            have hmk : (if (g.net fl).run.node < 0 then some (g.net fl).run.at_ else g.mkP k (cancel fl (g.net fl).cyc)) = some g.best := hmk
            rw [if_neg hq] at hmk
            exact ⟨k, rfl, hmk⟩
        have hcy := ncyc_of hok hq
        have hCy : lresC g fl = arcsD (g.net fl).cyc := if_neg hq
        obtain ⟨c, hc⟩ : ∃ c, (g.net fl).cyc = c := ⟨_, rfl⟩
        rw [hc] at hcy hCy hmk'
        obtain ⟨hmin0, ⟨jm, hjm, hjm2⟩, hflow', _⟩ := flow_step hok hsh hf hcy
        have hminb := flow_bd hok hsh hsm hf hjm
        rw [← hjm2] at hminb
        have hcl := hcy.len
        have hnn := hok.n
        refine WPA.weaken (T := [(sl 1, .av (.loc 1 0)), (sl 2, .av (.loc 2 0)), (sl 5, .av (.own 24 g.es.length)), (sl 9, .av (.d (arcsD c))), (bk 1, .blk (.data g.ds)), (bk 2, .blk (.data [.v (.slice none 0 0), .v (.slice none 0 0), .v (.int .i64 0)])), (bk 24, .blk (.app 1 g.es.length [.ints .i64 fl]))]) ?_ (St.le_cons rfl (St.le_cons rfl (St.le_cons rfl (St.le_cons (d_eq hCy) (St.le_cons rfl (St.le_cons rfl (St.le_cons rfl (St.le_nil _))))))))
        apply WPA.region
        · apply Trace.pu [] (.move (.plain rfl))
          apply Trace.pu [] (.eqNilRows hcl.1 Try.underlying51 (.plain rfl) (.plain rfl))
          exact .nil _
        · exact keepOK_of hk hn rfl
        refine WPA.cond rfl (fun hc4 => ?_) (fun hc4 => ?_)
        · cases hc4
        · apply WPA.skip
          apply WPA.seq
          apply WPA.region
          · apply Trace.pu [] (.assign (.plain rfl))
            exact .nil _
          · exact keepOK_of hk hn rfl
          apply WPA.seq
          apply WPA.seq
          apply WPA.region
          · apply Trace.pu [] (.move (.plain rfl))
            apply Trace.pu [] (.len rfl Try.underlying51 (.plain rfl) rfl)
            apply Trace.pu [] (.move (.plain rfl))
            exact .nil _
          · exact keepOK_of hk hn rfl
          apply WPA.block
          refine WPA.loop (σ := Nat) (fun i => [(sl 1, .av (.loc 1 0)), (sl 2, .av (.loc 2 0)), (sl 5, .av (.own 24 g.es.length)), (sl 9, .av (.d (arcsD c))), (sl 10, .av (iv .i64 (minTo fl c i))), (sl 50, .av (.d (arcsD c))), (sl 51, .av (iv .i64 (c.length))), (sl 52, .av (iv .i64 (i))), (bk 1, .blk (.data g.ds)), (bk 2, .blk (.data [.v (.slice none 0 0), .v (.slice none 0 0), .v (.int .i64 0)])), (bk 24, .blk (.app 1 g.es.length [.ints .i64 fl]))]) (fun i => i ≤ c.length) (fun i => c.length - i) 0
            (St.le_cons rfl (St.le_cons rfl (St.le_cons rfl (St.le_cons rfl (St.le_cons rfl (St.le_cons rfl (St.le_cons rfl (St.le_cons rfl (St.le_cons rfl (St.le_cons rfl (St.le_cons rfl (St.le_nil _)))))))))))) (Nat.zero_le _) fun i hi => ?_
          apply WPA.seq
          apply WPA.region
          · apply Trace.pu [] (.cmp (.plain rfl) (.plain rfl) rfl)
            exact .nil _
          · exact keepOK_of hk hn rfl
          apply WPA.seq
          refine WPA.cond rfl (fun hc5 => ?_) (fun hc5 => ?_)
          · have hlt : i < c.length := by simpa using hc5
            obtain ⟨a, ha⟩ : ∃ a, c.getD i default = a := ⟨_, rfl⟩
            obtain ⟨he1, he2, _, _⟩ := ha ▸ net_arc (hcy.mem i hlt)
            have hfb := hf.pos _ he1
            have hfb2 := flow_bd hok hsh hsm hf he1
            unfold fn at hfb hfb2
            have hfl := hf.len
            apply WPA.skip
            apply WPA.seq
            apply WPA.block
            apply WPA.seq
            apply WPA.region
            · apply Trace.pu [] ((Pure.indexRows el51 (.plain rfl) (.plain rfl) (fun _ => ⟨by omega, by omega⟩)).to (y := .rp a.ds) (by show AV.rp ((arcCols c).map (Col.at · i)) = _; rw [arc_row hlt, ha]))
              first | apply Trace.pu [_] (.loadAllD ty61 (.plain rfl) rfl (by simp)) | apply Trace.pu [_] (.loadLocD ty61 (.plain rfl) rfl (fun _ => by simp)) | apply Trace.pu [_] (.loadLoc ty61 (.plain rfl) rfl (fun _ => Nat.le_of_ble_eq_true rfl)) | apply Trace.pu [] (.loadRp ty61 (.plain rfl) (fun _ => by decide)) | apply Trace.pu [] (.loadRp ty61 (.plain rfl) (fun _ => Nat.le_of_ble_eq_true rfl)) | apply Trace.pu [_] (.loadCol ty61 (.plain rfl) rfl rfl (fun _ => by decide) (fun _ => by omega)) | apply Trace.pu [_] (.loadArr ty61 (.plain rfl) rfl)
              apply Trace.alloc 12 [] (.data _) zo61 (cellsAs_data _) rfl
              first | apply Trace.storeD ty61 (.plain rfl) (.plain rfl) rfl rfl (by simp) (by simp [AV.oneB, single, intsD, rowsD]) (by simp) (spliceL_all (by simp)) | apply Trace.storeD ty61 (.plain rfl) (.plain rfl) rfl rfl (by simp) (by simp [AV.oneB, single, intsD, rowsD]) (by simp) rfl | apply Trace.storeDA ty61 (.plain rfl) (.plain rfl) rfl rfl (by simp) (by simp [AV.oneB, single]) (by simp) rfl | apply Trace.storeLoc ty61 (.plain rfl) (.plain rfl) rfl rfl (by simp) (by simp [AV.oneB, single]) (by simp) rfl | apply Trace.storeRow ty61 (.plain rfl) (.plain rfl) rfl rfl rfl rfl (by decide) (by simp [AV.oneB, single]) rfl (by omega)
              exact .nil _
            · exact keepOK_of hk hn rfl
            apply WPA.seq
            apply WPA.region
            · apply Trace.pu [] (.fieldAddr fl61_4 (.plain rfl) rfl)
              first | apply Trace.pu [_] (.loadLoc1D ty4 (.plain rfl) rfl rfl) | apply Trace.pu [_] (.loadLoc1 ty4 (.plain rfl) rfl rfl) | apply Trace.pu [] (.loadRp1 ty4 (.plain rfl) rfl) | apply Trace.pu [_] (.loadCol1 ty4 (.plain rfl) rfl rfl rfl (fun _ => by omega))
              apply Trace.pu [] (.move (.plain rfl))
              apply Trace.pg [] rfl (.move (.plain rfl))
              apply Trace.pg [] rfl (.cmp (.gd rfl (fun h => h)) (.plain rfl) rfl)
              apply Trace.pg [] rfl (.move (.gd rfl (fun h => h)))
              apply Trace.pg [] rfl (.move (.plain rfl))
              apply Trace.pg [] rfl (.fieldAddr fl61_3 (.plain rfl) rfl)
              first | apply Trace.pg [_] rfl (.loadLoc1D ty3 (.gd rfl (fun h => h)) rfl rfl) | apply Trace.pg [_] rfl (.loadLoc1 ty3 (.gd rfl (fun h => h)) rfl rfl) | apply Trace.pg [] rfl (.loadRp1 ty3 (.gd rfl (fun h => h)) rfl) | apply Trace.pg [_] rfl (.loadCol1 ty3 (.gd rfl (fun h => h)) rfl rfl rfl (fun _ => by omega))
              first | apply Trace.pg [] rfl (.indexRows el22 (.gd rfl (fun h => h)) (.gd rfl (fun h => h)) (fun _ => ⟨by omega, by omega⟩)) | apply Trace.pg [] rfl (.indexOwn el22 (.gd rfl (fun h => h)) (.gd rfl (fun h => h)) (fun _ => ⟨by omega, by omega⟩)) | apply Trace.pg [] rfl (.indexSl el22 (.gd rfl (fun h => h)) (.gd rfl (fun h => h)) (fun _ => ⟨by omega, by omega⟩))
              first | apply Trace.pg [_] rfl (.loadLoc1D ty3 (.gd rfl (fun h => h)) rfl rfl) | apply Trace.pg [_] rfl (.loadLoc1 ty3 (.gd rfl (fun h => h)) rfl rfl) | apply Trace.pg [] rfl (.loadRp1 ty3 (.gd rfl (fun h => h)) rfl) | apply Trace.pg [_] rfl (.loadCol1 ty3 (.gd rfl (fun h => h)) rfl rfl rfl (fun _ => by omega))
              apply Trace.pg [] rfl (.move (.plain rfl))
              apply Trace.pg [] rfl (.cmp (.gd rfl (fun h => h)) (.gd rfl (fun h => h)) rfl)
              apply Trace.pg [] rfl (.pick (.gd rfl (fun h => h)) (.plain rfl) (.gd rfl (by simp)))
              apply Trace.pu [] (.pick (.plain rfl) (.gd rfl (by simp)) (.plain rfl))
              exact .nil _
            · exact keepOK_of hk hn rfl
            refine WPA.cond rfl (fun hc6 => ?_) (fun hc6 => ?_)
            · have h9 : (bif a.b then (bif decide (minTo fl c i < 0) then true else decide (fl.getD a.e.toNat 0 < minTo fl c i)) else false) = true := hc6
              rw [bif_and, bif_or, Bool.and_eq_true, Bool.or_eq_true, decide_eq_true_eq, decide_eq_true_eq] at h9
              have hms := minTo_succ (fl := fl) hlt
              rw [ha, if_pos h9] at hms
              apply WPA.region
              · apply Trace.pu [] (.move (.plain rfl))
                apply Trace.pu [] (.fieldAddr fl61_3 (.plain rfl) rfl)
                first | apply Trace.pu [_] (.loadLoc1D ty3 (.plain rfl) rfl rfl) | apply Trace.pu [_] (.loadLoc1 ty3 (.plain rfl) rfl rfl) | apply Trace.pu [] (.loadRp1 ty3 (.plain rfl) rfl) | apply Trace.pu [_] (.loadCol1 ty3 (.plain rfl) rfl rfl rfl (fun _ => by omega))
                first | apply Trace.pu [] (.indexRows el22 (.plain rfl) (.plain rfl) (fun _ => ⟨by omega, by omega⟩)) | apply Trace.pu [] (.indexOwn el22 (.plain rfl) (.plain rfl) (fun _ => ⟨by omega, by omega⟩)) | apply Trace.pu [] (.indexSl el22 (.plain rfl) (.plain rfl) (fun _ => ⟨by omega, by omega⟩))
                first | apply Trace.pu [_] (.loadLoc1D ty3 (.plain rfl) rfl rfl) | apply Trace.pu [_] (.loadLoc1 ty3 (.plain rfl) rfl rfl) | apply Trace.pu [] (.loadRp1 ty3 (.plain rfl) rfl) | apply Trace.pu [_] (.loadCol1 ty3 (.plain rfl) rfl rfl rfl (fun _ => by omega))
                apply Trace.pu [] (.assign (.plain rfl))
                exact .nil _
              · exact keepOK_of hk hn rfl
              apply WPA.region
              · apply Trace.pu [] (.arith (.plain rfl) (.plain rfl) rfl (fun _ => bd64 (by omega)))
                apply Trace.pu [] (.move (.plain rfl))
                exact .nil _
              · exact keepOK_of hk hn rfl
              exact ⟨i + 1, by omega, by omega, St.le_cons rfl (St.le_cons rfl (St.le_cons rfl (St.le_cons rfl (St.le_cons (slI hms.symm) (St.le_cons rfl (St.le_cons rfl (St.le_cons (slI (by omega)) (St.le_cons rfl (St.le_cons rfl (St.le_cons rfl (St.le_nil _)))))))))))⟩
            · have h9 : (bif a.b then (bif decide (minTo fl c i < 0) then true else decide (fl.getD a.e.toNat 0 < minTo fl c i)) else false) = false := hc6
              have h9 : ¬ (a.b = true ∧ (minTo fl c i < 0 ∨ fl.getD a.e.toNat 0 < minTo fl c i)) := by
                rintro ⟨h1, h2⟩
                rw [h1] at h9
                rcases h2 with h2 | h2
                · rw [decide_eq_true h2] at h9; cases h9
                · rw [decide_eq_true h2] at h9
                  cases h8 : decide (minTo fl c i < 0) <;> rw [h8] at h9 <;> cases h9
              have hms := minTo_succ (fl := fl) hlt
              rw [ha, if_neg h9] at hms
              apply WPA.skip
              apply WPA.region
              · apply Trace.pu [] (.arith (.plain rfl) (.plain rfl) rfl (fun _ => bd64 (by omega)))
                apply Trace.pu [] (.move (.plain rfl))
                exact .nil _
              · exact keepOK_of hk hn rfl
              exact ⟨i + 1, by omega, by omega, St.le_cons rfl (St.le_cons rfl (St.le_cons rfl (St.le_cons rfl (St.le_cons (slI hms.symm) (St.le_cons rfl (St.le_cons rfl (St.le_cons (slI (by omega)) (St.le_cons rfl (St.le_cons rfl (St.le_cons rfl (St.le_nil _)))))))))))⟩
          · have hin : i = c.length := by
              have : ¬ ((i : Int) < c.length) := by simpa using hc5
              omega
            subst hin
            rw [← minBack_eq]
            apply WPA.exit
            apply WPA.seq
            apply WPA.region
            · apply Trace.pu [] (.move (.plain rfl))
              apply Trace.pu [] (.len rfl Try.underlying51 (.plain rfl) rfl)
              apply Trace.pu [] (.move (.plain rfl))
              exact .nil _
            · exact keepOK_of hk hn rfl
            apply WPA.block
            refine WPA.loop (σ := Nat) (fun i => [(sl 1, .av (.loc 1 0)), (sl 2, .av (.loc 2 0)), (sl 5, .av (.own 24 g.es.length)), (sl 9, .av (.d (arcsD c))), (sl 10, .av (iv .i64 (minBack fl c))), (sl 77, .av (.d (arcsD c))), (sl 78, .av (iv .i64 (c.length))), (sl 79, .av (iv .i64 (i))), (bk 1, .blk (.data g.ds)), (bk 2, .blk (.data [.v (.slice none 0 0), .v (.slice none 0 0), .v (.int .i64 0)])), (bk 24, .blk (.app 1 g.es.length [.ints .i64 (pushTo (minBack fl c) fl c i)]))]) (fun i => i ≤ c.length) (fun i => c.length - i) 0
              (St.le_cons rfl (St.le_cons rfl (St.le_cons rfl (St.le_cons rfl (St.le_cons rfl (St.le_cons rfl (St.le_cons rfl (St.le_cons rfl (St.le_cons rfl (St.le_cons rfl (St.le_cons rfl (St.le_nil _)))))))))))) (Nat.zero_le _) fun i hi => ?_
            apply WPA.seq
            apply WPA.region
            · apply Trace.pu [] (.cmp (.plain rfl) (.plain rfl) rfl)
              exact .nil _
            · exact keepOK_of hk hn rfl
            apply WPA.seq
            refine WPA.cond rfl (fun hc7 => ?_) (fun hc7 => ?_)
            · have hlt : i < c.length := by simpa using hc7
              obtain ⟨a, ha⟩ : ∃ a, c.getD i default = a := ⟨_, rfl⟩
              obtain ⟨he1, he2, _, _⟩ := ha ▸ net_arc (hcy.mem i hlt)
              have hfb := hf.pos _ he1
              have hfb2 := flow_bd hok hsh hsm hf he1
              unfold fn at hfb hfb2
              have hfl := hf.len
              have hpi := pinv hcy hf.len (Int.le_of_lt hmin0) i hi
              have hp1 := hpi.lo _ he1
              have hp2 := hpi.hi _ he1
              have hpl := hpi.len
              unfold fn at hp1 hp2
              have hps := pushTo_succ (n := minBack fl c) (fl := fl) hlt
              rw [ha] at hps
              unfold push1 at hps
              apply WPA.skip
              apply WPA.seq
              apply WPA.block
              apply WPA.seq
              apply WPA.region
              · apply Trace.pu [] ((Pure.indexRows el51 (.plain rfl) (.plain rfl) (fun _ => ⟨by omega, by omega⟩)).to (y := .rp a.ds) (by show AV.rp ((arcCols c).map (Col.at · i)) = _; rw [arc_row hlt, ha]))
                first | apply Trace.pu [_] (.loadAllD ty61 (.plain rfl) rfl (by simp)) | apply Trace.pu [_] (.loadLocD ty61 (.plain rfl) rfl (fun _ => by simp)) | apply Trace.pu [_] (.loadLoc ty61 (.plain rfl) rfl (fun _ => Nat.le_of_ble_eq_true rfl)) | apply Trace.pu [] (.loadRp ty61 (.plain rfl) (fun _ => by decide)) | apply Trace.pu [] (.loadRp ty61 (.plain rfl) (fun _ => Nat.le_of_ble_eq_true rfl)) | apply Trace.pu [_] (.loadCol ty61 (.plain rfl) rfl rfl (fun _ => by decide) (fun _ => by omega)) | apply Trace.pu [_] (.loadArr ty61 (.plain rfl) rfl)
                apply Trace.alloc 14 [] (.data _) zo61 (cellsAs_data _) rfl
                first | apply Trace.storeD ty61 (.plain rfl) (.plain rfl) rfl rfl (by simp) (by simp [AV.oneB, single, intsD, rowsD]) (by simp) (spliceL_all (by simp)) | apply Trace.storeD ty61 (.plain rfl) (.plain rfl) rfl rfl (by simp) (by simp [AV.oneB, single, intsD, rowsD]) (by simp) rfl | apply Trace.storeDA ty61 (.plain rfl) (.plain rfl) rfl rfl (by simp) (by simp [AV.oneB, single]) (by simp) rfl | apply Trace.storeLoc ty61 (.plain rfl) (.plain rfl) rfl rfl (by simp) (by simp [AV.oneB, single]) (by simp) rfl | apply Trace.storeRow ty61 (.plain rfl) (.plain rfl) rfl rfl rfl rfl (by decide) (by simp [AV.oneB, single]) rfl (by omega)
                exact .nil _
              · exact keepOK_of hk hn rfl
              apply WPA.seq
              apply WPA.region
              · apply Trace.pu [] (.fieldAddr fl61_4 (.plain rfl) rfl)
                first | apply Trace.pu [_] (.loadLoc1D ty4 (.plain rfl) rfl rfl) | apply Trace.pu [_] (.loadLoc1 ty4 (.plain rfl) rfl rfl) | apply Trace.pu [] (.loadRp1 ty4 (.plain rfl) rfl) | apply Trace.pu [_] (.loadCol1 ty4 (.plain rfl) rfl rfl rfl (fun _ => by omega))
                exact .nil _
              · exact keepOK_of hk hn rfl
              refine WPA.cond rfl (fun hc8 => ?_) (fun hc8 => ?_)
              · rw [if_pos hc8] at hps
                apply WPA.region
                · apply Trace.pu [] (.move (.plain rfl))
                  apply Trace.pu [] (.fieldAddr fl61_3 (.plain rfl) rfl)
                  first | apply Trace.pu [_] (.loadLoc1D ty3 (.plain rfl) rfl rfl) | apply Trace.pu [_] (.loadLoc1 ty3 (.plain rfl) rfl rfl) | apply Trace.pu [] (.loadRp1 ty3 (.plain rfl) rfl) | apply Trace.pu [_] (.loadCol1 ty3 (.plain rfl) rfl rfl rfl (fun _ => by omega))
                  first | apply Trace.pu [] (.indexRows el22 (.plain rfl) (.plain rfl) (fun _ => ⟨by omega, by omega⟩)) | apply Trace.pu [] (.indexOwn el22 (.plain rfl) (.plain rfl) (fun _ => ⟨by omega, by omega⟩)) | apply Trace.pu [] (.indexSl el22 (.plain rfl) (.plain rfl) (fun _ => ⟨by omega, by omega⟩))
                  first | apply Trace.pu [_] (.loadLoc1D ty3 (.plain rfl) rfl rfl) | apply Trace.pu [_] (.loadLoc1 ty3 (.plain rfl) rfl rfl) | apply Trace.pu [] (.loadRp1 ty3 (.plain rfl) rfl) | apply Trace.pu [_] (.loadCol1 ty3 (.plain rfl) rfl rfl rfl (fun _ => by omega))
                  apply Trace.pu [] (.move (.plain rfl))
                  apply Trace.pu [] (.arith (.plain rfl) (.plain rfl) rfl (fun _ => bd64 (by omega)))
                  first | apply Trace.pu [] (.indexRows el22 (.plain rfl) (.plain rfl) (fun _ => ⟨by omega, by omega⟩)) | apply Trace.pu [] (.indexOwn el22 (.plain rfl) (.plain rfl) (fun _ => ⟨by omega, by omega⟩)) | apply Trace.pu [] (.indexSl el22 (.plain rfl) (.plain rfl) (fun _ => ⟨by omega, by omega⟩))
                  first | apply Trace.storeD ty3 (.plain rfl) (.plain rfl) rfl rfl rfl (by simp [AV.oneB, single]) (Nat.le_of_ble_eq_true rfl) rfl | apply Trace.storeDA ty3 (.plain rfl) (.plain rfl) rfl rfl rfl (by simp [AV.oneB, single]) (Nat.le_of_ble_eq_true rfl) rfl | apply Trace.storeLoc ty3 (.plain rfl) (.plain rfl) rfl rfl rfl (by simp [AV.oneB, single]) (Nat.le_of_ble_eq_true rfl) rfl | apply Trace.storeRow ty3 (.plain rfl) (.plain rfl) rfl rfl rfl rfl (by decide) (by simp [AV.oneB, single]) rfl (by omega)
                  exact .nil _
                · exact keepOK_of hk hn rfl
                apply WPA.region
                · apply Trace.pu [] (.arith (.plain rfl) (.plain rfl) rfl (fun _ => bd64 (by omega)))
                  apply Trace.pu [] (.move (.plain rfl))
                  exact .nil _
                · exact keepOK_of hk hn rfl
                exact ⟨i + 1, by omega, by omega, St.le_cons rfl (St.le_cons rfl (St.le_cons rfl (St.le_cons rfl (St.le_cons rfl (St.le_cons rfl (St.le_cons rfl (St.le_cons (slI (by omega)) (St.le_cons rfl (St.le_cons rfl (St.le_cons (app_eq64 hps.symm) (St.le_nil _)))))))))))⟩
              · rw [if_neg (by rw [hc8]; decide)] at hps
                apply WPA.region
                · apply Trace.pu [] (.move (.plain rfl))
                  apply Trace.pu [] (.fieldAddr fl61_3 (.plain rfl) rfl)
                  first | apply Trace.pu [_] (.loadLoc1D ty3 (.plain rfl) rfl rfl) | apply Trace.pu [_] (.loadLoc1 ty3 (.plain rfl) rfl rfl) | apply Trace.pu [] (.loadRp1 ty3 (.plain rfl) rfl) | apply Trace.pu [_] (.loadCol1 ty3 (.plain rfl) rfl rfl rfl (fun _ => by omega))
                  first | apply Trace.pu [] (.indexRows el22 (.plain rfl) (.plain rfl) (fun _ => ⟨by omega, by omega⟩)) | apply Trace.pu [] (.indexOwn el22 (.plain rfl) (.plain rfl) (fun _ => ⟨by omega, by omega⟩)) | apply Trace.pu [] (.indexSl el22 (.plain rfl) (.plain rfl) (fun _ => ⟨by omega, by omega⟩))
                  first | apply Trace.pu [_] (.loadLoc1D ty3 (.plain rfl) rfl rfl) | apply Trace.pu [_] (.loadLoc1 ty3 (.plain rfl) rfl rfl) | apply Trace.pu [] (.loadRp1 ty3 (.plain rfl) rfl) | apply Trace.pu [_] (.loadCol1 ty3 (.plain rfl) rfl rfl rfl (fun _ => by omega))
                  apply Trace.pu [] (.move (.plain rfl))
                  apply Trace.pu [] (.arith (.plain rfl) (.plain rfl) rfl (fun _ => bd64 (by omega)))
                  first | apply Trace.pu [] (.indexRows el22 (.plain rfl) (.plain rfl) (fun _ => ⟨by omega, by omega⟩)) | apply Trace.pu [] (.indexOwn el22 (.plain rfl) (.plain rfl) (fun _ => ⟨by omega, by omega⟩)) | apply Trace.pu [] (.indexSl el22 (.plain rfl) (.plain rfl) (fun _ => ⟨by omega, by omega⟩))
                  first | apply Trace.storeD ty3 (.plain rfl) (.plain rfl) rfl rfl rfl (by simp [AV.oneB, single]) (Nat.le_of_ble_eq_true rfl) rfl | apply Trace.storeDA ty3 (.plain rfl) (.plain rfl) rfl rfl rfl (by simp [AV.oneB, single]) (Nat.le_of_ble_eq_true rfl) rfl | apply Trace.storeLoc ty3 (.plain rfl) (.plain rfl) rfl rfl rfl (by simp [AV.oneB, single]) (Nat.le_of_ble_eq_true rfl) rfl | apply Trace.storeRow ty3 (.plain rfl) (.plain rfl) rfl rfl rfl rfl (by decide) (by simp [AV.oneB, single]) rfl (by omega)
                  exact .nil _
                · exact keepOK_of hk hn rfl
                apply WPA.region
                · apply Trace.pu [] (.arith (.plain rfl) (.plain rfl) rfl (fun _ => bd64 (by omega)))
                  apply Trace.pu [] (.move (.plain rfl))
                  exact .nil _
                · exact keepOK_of hk hn rfl
                exact ⟨i + 1, by omega, by omega, St.le_cons rfl (St.le_cons rfl (St.le_cons rfl (St.le_cons rfl (St.le_cons rfl (St.le_cons rfl (St.le_cons rfl (St.le_cons (slI (by omega)) (St.le_cons rfl (St.le_cons rfl (St.le_cons (app_eq64 hps.symm) (St.le_nil _)))))))))))⟩
            · have hin : i = c.length := by
                have : ¬ ((i : Int) < c.length) := by simpa using hc7
                omega
              subst hin
              apply WPA.exit
              exact ⟨(k', cancel fl c), ⟨hmk', hflow'⟩, by show k' < k; omega, St.le_cons rfl (St.le_cons rfl (St.le_cons rfl (St.le_cons rfl (St.le_cons rfl (St.le_cons rfl (St.le_nil _))))))⟩

end Go.Proofs.Ytkieenlidehdgaa

