/- The chapter's examples; made, formed. -/
import Derived.Test.YtkieenlidehdgaaPlan8F
import Derived.Test.YtkieenlidehdgaaGuard
namespace Go.Proofs.Ytkieenlidehdgaa
open Go
set_option linter.unusedVariables false
set_option linter.unusedSimpArgs false
set_option maxRecDepth 100000
set_option maxHeartbeats 1000000

def G1 : Gr := ⟨[3, 0, 0], [⟨0, 1, 1, 0⟩, ⟨2, 1, 2, 0⟩]⟩
def G2 : Gr := ⟨[2, 0], [⟨0, 1, 1, 5⟩]⟩
def G3 : Gr := ⟨[], []⟩
def G4 : Gr := ⟨[9], []⟩
theorem sz_of {g : Gr} (h : (decide (g.lat.length ≤ 4611686018427387904 ∧ g.es.length ≤ 4611686018427387904) && (g.lat.all fun x => decide (-9223372036854775808 ≤ x ∧ x ≤ 9223372036854775807)) &&
    g.es.all fun e => decide ((-9223372036854775808 ≤ e.f ∧ e.f ≤ 9223372036854775807) ∧ (-9223372036854775808 ≤ e.t ∧ e.t ≤ 9223372036854775807) ∧ (-9223372036854775808 ≤ e.w ∧ e.w ≤ 9223372036854775807) ∧ -9223372036854775808 ≤ e.d ∧ e.d ≤ 9223372036854775807)) = true) : g.Sz := by
  simp only [Bool.and_eq_true, decide_eq_true_eq, List.all_eq_true] at h
  exact ⟨h.1.1.1, h.1.1.2, h.1.2, h.2⟩
theorem leastN {g : Gr} (hz : g.Sz) {l : List Int} {c : Int} (h : g.leastP = (l, c)) : FnSpec Try.prog 12 [g.av] [] (.tup ([intsD l, .v (.int .i64 c)].map .d)) [] [] := by
  have := spec12 g hz
  rw [h] at this
  exact this
theorem makeN {g : Gr} (hz : g.Sz) (hsm : g.check = 0 → g.Small) {p : Pl} {c : Int} (h : g.makeP = (p, c)) : FnSpec Try.prog 19 [g.av] [] (.tup ([p.d, .v (.int .i64 c)].map .d)) [] [] := by
  have := spec19 g hz hsm
  rw [h] at this
  exact this
theorem memN {g : Gr} (hz : g.Sz) {at_ : List Int} (ha : at_.length ≤ 17592186044416) {p : Pl} {c : Int} (h : g.memory at_ = (p, c)) : FnSpec Try.prog 14 [g.av, .d (intsD at_)] [] (.tup ([p.d, .v (.int .i64 c)].map .d)) [] [] := by
  have := spec14 g hz at_ ha
  rw [h] at this
  exact this
theorem siT {a b : List Int} (ha : a.length ≤ 1000) (h : a = b) : FnSpec Try.prog 16 [.d (intsD a), .d (intsD b)] [] (bv true) [] [] := by
  have := spec16 a b (by omega) (by rw [← h]; omega)
  rwa [decide_eq_true h] at this
theorem saT {p q : Pl} (h1 : p.at_.length ≤ 1000) (h2 : p.del.length ≤ 1000) (h : p = q) : FnSpec Try.prog 17 [.d p.d, .d q.d] [] (bv true) [] [] := by
  subst h
  have := spec17 p p (by omega) (by omega) (by omega) (by omega)
  rwa [Pl.same_iff.2 rfl] at this
theorem least_of {g : Gr} (hc : g.check = 0) {l : List Int} (h : g.low = l) : g.leastP = (l, 0) := by unfold Gr.leastP; rw [if_neg (by rw [hc]; decide), h]
theorem make_of {g : Gr} (hc : g.check = 0) {k : Nat} {l : List Int} (h : g.mkP k g.ws = some l) {p : Pl} (hp : g.planOf l = p) : g.makeP = (p, 0) := by unfold Gr.makeP; rw [if_neg (by rw [hc]; decide), best_of h, hp]
theorem mem_of {g : Gr} (hc : g.check = 0) {l : List Int} (h : g.posB l = true) {p : Pl} (hp : g.planOf l = p) : g.memory l = (p, 0) := by unfold Gr.memory; rw [if_neg (by rw [hc]; decide), if_pos h, hp]
theorem mem_no {g : Gr} (hc : g.check = 0) {l : List Int} (h : g.posB l = false) : g.memory l = (Pl.none, 230) := by unfold Gr.memory; rw [if_neg (by rw [hc]; decide), if_neg (by rw [h]; decide)]
theorem planOf_eq {g : Gr} {l del : List Int} {m : Int} (h1 : g.delTo l g.es.length = del) (h2 : g.memTo l g.es.length = m) : g.planOf l = ⟨l, del, m⟩ := by unfold Gr.planOf; rw [h1, h2]
theorem G1_sz : G1.Sz := sz_of (by decide +kernel)
theorem G1_ok : G1.check = 0 := (by decide +kernel)
theorem G2_sz : G2.Sz := sz_of (by decide +kernel)
theorem G2_ok : G2.check = 0 := (by decide +kernel)
theorem G3_sz : G3.Sz := sz_of (by decide +kernel)
theorem G3_ok : G3.check = 0 := (by decide +kernel)
theorem G4_sz : G4.Sz := sz_of (by decide +kernel)
theorem G4_ok : G4.check = 0 := (by decide +kernel)
theorem sL1 : FnSpec Try.prog 12 [G1.av] [] (.tup ([intsD [0, 3, 0], .v (.int .i64 0)].map .d)) [] [] := leastN G1_sz (least_of G1_ok (l := [0, 3, 0]) (by decide +kernel))
theorem sK1 : FnSpec Try.prog 19 [G1.av] [] (.tup ([Pl.d ⟨[0, 3, 3], [0, 0], 0⟩, .v (.int .i64 0)].map .d)) [] [] := makeN G1_sz (fun _ => ⟨by decide, by decide⟩) (make_of G1_ok (k := 10) (l := [0, 3, 3]) (by decide +kernel) (planOf_eq (del := [0, 0]) (m := 0) (by decide +kernel) (by decide +kernel)))
theorem sM1 : FnSpec Try.prog 14 [G1.av, .d (intsD [0, 3, 0])] [] (.tup ([Pl.d ⟨[0, 3, 0], [0, 3], 6⟩, .v (.int .i64 0)].map .d)) [] [] := memN G1_sz (at_ := [0, 3, 0]) (by decide) (mem_of G1_ok (by decide +kernel) (planOf_eq (del := [0, 3]) (m := 6) (by decide +kernel) (by decide +kernel)))
theorem sM2 : FnSpec Try.prog 14 [G1.av, .d (intsD [-1, 3, 0])] [] (.tup ([Pl.none.d, .v (.int .i64 230)].map .d)) [] [] := memN G1_sz (at_ := [-1, 3, 0]) (by decide) (mem_no G1_ok (by decide +kernel))
theorem sM3 : FnSpec Try.prog 14 [G1.av, .d (intsD [0, 2, 0])] [] (.tup ([Pl.none.d, .v (.int .i64 230)].map .d)) [] [] := memN G1_sz (at_ := [0, 2, 0]) (by decide) (mem_no G1_ok (by decide +kernel))
theorem sL2 : FnSpec Try.prog 12 [G2.av] [] (.tup ([intsD [0, 0], .v (.int .i64 0)].map .d)) [] [] := leastN G2_sz (least_of G2_ok (l := [0, 0]) (by decide +kernel))
theorem sM4 : FnSpec Try.prog 14 [G2.av, .d (intsD [0, 0])] [] (.tup ([Pl.d ⟨[0, 0], [3], 3⟩, .v (.int .i64 0)].map .d)) [] [] := memN G2_sz (at_ := [0, 0]) (by decide) (mem_of G2_ok (by decide +kernel) (planOf_eq (del := [3]) (m := 3) (by decide +kernel) (by decide +kernel)))
theorem sK3 : FnSpec Try.prog 19 [G3.av] [] (.tup ([Pl.d ⟨[], [], 0⟩, .v (.int .i64 0)].map .d)) [] [] := makeN G3_sz (fun _ => ⟨by decide, by decide⟩) (make_of G3_ok (k := 10) (l := []) (by decide +kernel) (planOf_eq (del := []) (m := 0) (by decide +kernel) (by decide +kernel)))
theorem sL4 : FnSpec Try.prog 12 [G4.av] [] (.tup ([intsD [0], .v (.int .i64 0)].map .d)) [] [] := leastN G4_sz (least_of G4_ok (l := [0]) (by decide +kernel))
/-- soundpost/soundpostlaw23.sane -/
theorem spec10  : FnSpec Try.prog 10 [] [] (bv true) [] [] := by
  refine fnSpec_of (rs := [.tmp 0]) Try.func10 rfl rfl (Nat.le_of_ble_eq_true rfl) (by simp [St.get]) fun E hk hn => ?_
  apply WPA.seq
  apply WPA.region
  · apply Trace.pu [] (.assign (.plain rfl))
    exact .nil _
  · exact keepOK_of hk hn rfl
  apply WPA.seq
  apply WPA.region
  · apply Trace.buildRows (g := fun i => [Col.ints .i64 [3, 0, 0]].map (Col.at · i)) so22 zo3 rfl (by decide) (by decide) (.cons (.plain rfl) rfl rfl (Nat.le_of_ble_eq_true rfl) (.cons (.plain rfl) rfl rfl (Nat.le_of_ble_eq_true rfl) (.cons (.plain rfl) rfl rfl (Nat.le_of_ble_eq_true rfl) (.nil _ _)))) rfl (fun i hi => by rcases (by omega : i = 0 ∨ i = 1 ∨ i = 2) with rfl | rfl | rfl <;> rfl)
    apply Trace.pu [] (.build zo44 pl44 (.cons (.plain rfl) rfl rfl (Nat.le_of_ble_eq_true rfl) (.cons (.plain rfl) rfl rfl (Nat.le_of_ble_eq_true rfl) (.cons (.plain rfl) rfl rfl (Nat.le_of_ble_eq_true rfl) (.nil _ _)))) rfl)
    apply Trace.pu [] (.build zo44 pl44 (.cons (.plain rfl) rfl rfl (Nat.le_of_ble_eq_true rfl) (.cons (.plain rfl) rfl rfl (Nat.le_of_ble_eq_true rfl) (.cons (.plain rfl) rfl rfl (Nat.le_of_ble_eq_true rfl) (.nil _ _)))) rfl)
    apply Trace.buildRows (g := fun k => (G1.es.getD k default).ds) so23 zo44 rfl (by decide) (by decide) (.cons (.plain rfl) rfl rfl (Nat.le_of_ble_eq_true rfl) (.cons (.plain rfl) rfl rfl (Nat.le_of_ble_eq_true rfl) (.nil _ _))) rfl (fun i hi => by rcases (by omega : i = 0 ∨ i = 1) with rfl | rfl <;> rfl)
    apply Trace.pu [] (.build zo25 pl25 (.cons (.plain rfl) rfl rfl (Nat.le_of_ble_eq_true rfl) (.cons (.plain rfl) rfl rfl (Nat.le_of_ble_eq_true rfl) (.nil _ _))) rfl)
    apply Trace.alloc 1 [] (.data _) zo25 (cellsAs_data _) rfl
    first | apply Trace.storeD ty25 (.plain rfl) (.plain rfl) rfl rfl (by simp) (by simp [AV.oneB, single, intsD, rowsD]) (by simp) (spliceL_all (by simp)) | apply Trace.storeD ty25 (.plain rfl) (.plain rfl) rfl rfl (by simp) (by simp [AV.oneB, single, intsD, rowsD]) (by simp) rfl | apply Trace.storeDA ty25 (.plain rfl) (.plain rfl) rfl rfl (by simp) (by simp [AV.oneB, single]) (by simp) rfl | apply Trace.storeLoc ty25 (.plain rfl) (.plain rfl) rfl rfl (by simp) (by simp [AV.oneB, single]) (by simp) rfl | apply Trace.storeRow ty25 (.plain rfl) (.plain rfl) rfl rfl rfl rfl (by decide) (by simp [AV.oneB, single]) rfl (by omega)
    exact .nil _
  · exact keepOK_of hk hn rfl
  apply WPA.seq
  apply WPA.region
  · apply Trace.buildRows (g := fun i => [Col.ints .i64 [2, 0]].map (Col.at · i)) so22 zo3 rfl (by decide) (by decide) (.cons (.plain rfl) rfl rfl (Nat.le_of_ble_eq_true rfl) (.cons (.plain rfl) rfl rfl (Nat.le_of_ble_eq_true rfl) (.nil _ _))) rfl (fun i hi => by rcases (by omega : i = 0 ∨ i = 1) with rfl | rfl <;> rfl)
    apply Trace.pu [] (.build zo44 pl44 (.cons (.plain rfl) rfl rfl (Nat.le_of_ble_eq_true rfl) (.cons (.plain rfl) rfl rfl (Nat.le_of_ble_eq_true rfl) (.cons (.plain rfl) rfl rfl (Nat.le_of_ble_eq_true rfl) (.cons (.plain rfl) rfl rfl (Nat.le_of_ble_eq_true rfl) (.nil _ _))))) rfl)
    apply Trace.buildRows (g := fun k => (G2.es.getD k default).ds) so23 zo44 rfl (by decide) (by decide) (.cons (.plain rfl) rfl rfl (Nat.le_of_ble_eq_true rfl) (.nil _ _)) rfl (fun i hi => by cases i with | zero => rfl | succ k => omega)
    apply Trace.pu [] (.build zo25 pl25 (.cons (.plain rfl) rfl rfl (Nat.le_of_ble_eq_true rfl) (.cons (.plain rfl) rfl rfl (Nat.le_of_ble_eq_true rfl) (.nil _ _))) rfl)
    apply Trace.alloc 2 [] (.data _) zo25 (cellsAs_data _) rfl
    first | apply Trace.storeD ty25 (.plain rfl) (.plain rfl) rfl rfl (by simp) (by simp [AV.oneB, single, intsD, rowsD]) (by simp) (spliceL_all (by simp)) | apply Trace.storeD ty25 (.plain rfl) (.plain rfl) rfl rfl (by simp) (by simp [AV.oneB, single, intsD, rowsD]) (by simp) rfl | apply Trace.storeDA ty25 (.plain rfl) (.plain rfl) rfl rfl (by simp) (by simp [AV.oneB, single]) (by simp) rfl | apply Trace.storeLoc ty25 (.plain rfl) (.plain rfl) rfl rfl (by simp) (by simp [AV.oneB, single]) (by simp) rfl | apply Trace.storeRow ty25 (.plain rfl) (.plain rfl) rfl rfl rfl rfl (by decide) (by simp [AV.oneB, single]) rfl (by omega)
    exact .nil _
  · exact keepOK_of hk hn rfl
  apply WPA.seq
  apply WPA.region
  · first | apply Trace.pu [_] (.loadAllD ty25 (.plain rfl) rfl (by simp)) | apply Trace.pu [_] (.loadLocD ty25 (.plain rfl) rfl (fun _ => by simp)) | apply Trace.pu [_] (.loadLoc ty25 (.plain rfl) rfl (fun _ => Nat.le_of_ble_eq_true rfl)) | apply Trace.pu [] (.loadRp ty25 (.plain rfl) (fun _ => by decide)) | apply Trace.pu [] (.loadRp ty25 (.plain rfl) (fun _ => Nat.le_of_ble_eq_true rfl)) | apply Trace.pu [_] (.loadCol ty25 (.plain rfl) rfl rfl (fun _ => by decide) (fun _ => by omega)) | apply Trace.pu [_] (.loadArr ty25 (.plain rfl) rfl)
    apply Trace.ct (callArgs0 (.cons (.plain rfl) .nil)) sL1 en12
    apply Trace.pu [] (.move (.plain rfl))
    apply Trace.pu [] (.extract (.plain rfl) rfl)
    apply Trace.pu [] (.extract (.plain rfl) rfl)
    apply Trace.pu [] (.assign (.plain rfl))
    apply Trace.pu [] (.assign (.plain rfl))
    exact .nil _
  · exact keepOK_of hk hn rfl
  apply WPA.seq
  apply WPA.region
  · first | apply Trace.pu [_] (.loadAllD ty25 (.plain rfl) rfl (by simp)) | apply Trace.pu [_] (.loadLocD ty25 (.plain rfl) rfl (fun _ => by simp)) | apply Trace.pu [_] (.loadLoc ty25 (.plain rfl) rfl (fun _ => Nat.le_of_ble_eq_true rfl)) | apply Trace.pu [] (.loadRp ty25 (.plain rfl) (fun _ => by decide)) | apply Trace.pu [] (.loadRp ty25 (.plain rfl) (fun _ => Nat.le_of_ble_eq_true rfl)) | apply Trace.pu [_] (.loadCol ty25 (.plain rfl) rfl rfl (fun _ => by decide) (fun _ => by omega)) | apply Trace.pu [_] (.loadArr ty25 (.plain rfl) rfl)
    apply Trace.ct (callArgs0 (.cons (.plain rfl) .nil)) sK1 en19
    apply Trace.pu [] (.move (.plain rfl))
    apply Trace.pu [] (.extract (.plain rfl) rfl)
    apply Trace.pu [] (.extract (.plain rfl) rfl)
    apply Trace.alloc 5 [] (.data _) zo32 (cellsAs_data _) rfl
    first | apply Trace.storeD ty32 (.plain rfl) (.plain rfl) rfl rfl (by simp) (by simp [AV.oneB, single, intsD, rowsD]) (by simp) (spliceL_all (by simp)) | apply Trace.storeD ty32 (.plain rfl) (.plain rfl) rfl rfl (by simp) (by simp [AV.oneB, single, intsD, rowsD]) (by simp) rfl | apply Trace.storeDA ty32 (.plain rfl) (.plain rfl) rfl rfl (by simp) (by simp [AV.oneB, single]) (by simp) rfl | apply Trace.storeLoc ty32 (.plain rfl) (.plain rfl) rfl rfl (by simp) (by simp [AV.oneB, single]) (by simp) rfl | apply Trace.storeRow ty32 (.plain rfl) (.plain rfl) rfl rfl rfl rfl (by decide) (by simp [AV.oneB, single]) rfl (by omega)
    apply Trace.pu [] (.assign (.plain rfl))
    exact .nil _
  · exact keepOK_of hk hn rfl
  apply WPA.seq
  apply WPA.region
  · first | apply Trace.pu [_] (.loadAllD ty25 (.plain rfl) rfl (by simp)) | apply Trace.pu [_] (.loadLocD ty25 (.plain rfl) rfl (fun _ => by simp)) | apply Trace.pu [_] (.loadLoc ty25 (.plain rfl) rfl (fun _ => Nat.le_of_ble_eq_true rfl)) | apply Trace.pu [] (.loadRp ty25 (.plain rfl) (fun _ => by decide)) | apply Trace.pu [] (.loadRp ty25 (.plain rfl) (fun _ => Nat.le_of_ble_eq_true rfl)) | apply Trace.pu [_] (.loadCol ty25 (.plain rfl) rfl rfl (fun _ => by decide) (fun _ => by omega)) | apply Trace.pu [_] (.loadArr ty25 (.plain rfl) rfl)
    apply Trace.buildRows (g := fun i => [Col.ints .i64 [0, 3, 0]].map (Col.at · i)) so22 zo3 rfl (by decide) (by decide) (.cons (.plain rfl) rfl rfl (Nat.le_of_ble_eq_true rfl) (.cons (.plain rfl) rfl rfl (Nat.le_of_ble_eq_true rfl) (.cons (.plain rfl) rfl rfl (Nat.le_of_ble_eq_true rfl) (.nil _ _)))) rfl (fun i hi => by rcases (by omega : i = 0 ∨ i = 1 ∨ i = 2) with rfl | rfl | rfl <;> rfl)
    apply Trace.ct (callArgs0 (.cons (.plain rfl) (.cons (.plain rfl) .nil))) sM1 en14
    apply Trace.pu [] (.move (.plain rfl))
    apply Trace.pu [] (.extract (.plain rfl) rfl)
    apply Trace.pu [] (.extract (.plain rfl) rfl)
    apply Trace.alloc 7 [] (.data _) zo32 (cellsAs_data _) rfl
    first | apply Trace.storeD ty32 (.plain rfl) (.plain rfl) rfl rfl (by simp) (by simp [AV.oneB, single, intsD, rowsD]) (by simp) (spliceL_all (by simp)) | apply Trace.storeD ty32 (.plain rfl) (.plain rfl) rfl rfl (by simp) (by simp [AV.oneB, single, intsD, rowsD]) (by simp) rfl | apply Trace.storeDA ty32 (.plain rfl) (.plain rfl) rfl rfl (by simp) (by simp [AV.oneB, single]) (by simp) rfl | apply Trace.storeLoc ty32 (.plain rfl) (.plain rfl) rfl rfl (by simp) (by simp [AV.oneB, single]) (by simp) rfl | apply Trace.storeRow ty32 (.plain rfl) (.plain rfl) rfl rfl rfl rfl (by decide) (by simp [AV.oneB, single]) rfl (by omega)
    apply Trace.pu [] (.assign (.plain rfl))
    exact .nil _
  · exact keepOK_of hk hn rfl
  apply WPA.seq
  apply WPA.region
  · first | apply Trace.pu [_] (.loadAllD ty25 (.plain rfl) rfl (by simp)) | apply Trace.pu [_] (.loadLocD ty25 (.plain rfl) rfl (fun _ => by simp)) | apply Trace.pu [_] (.loadLoc ty25 (.plain rfl) rfl (fun _ => Nat.le_of_ble_eq_true rfl)) | apply Trace.pu [] (.loadRp ty25 (.plain rfl) (fun _ => by decide)) | apply Trace.pu [] (.loadRp ty25 (.plain rfl) (fun _ => Nat.le_of_ble_eq_true rfl)) | apply Trace.pu [_] (.loadCol ty25 (.plain rfl) rfl rfl (fun _ => by decide) (fun _ => by omega)) | apply Trace.pu [_] (.loadArr ty25 (.plain rfl) rfl)
    apply Trace.buildRows (g := fun i => [Col.ints .i64 [-1, 3, 0]].map (Col.at · i)) so22 zo3 rfl (by decide) (by decide) (.cons (.plain rfl) rfl rfl (Nat.le_of_ble_eq_true rfl) (.cons (.plain rfl) rfl rfl (Nat.le_of_ble_eq_true rfl) (.cons (.plain rfl) rfl rfl (Nat.le_of_ble_eq_true rfl) (.nil _ _)))) rfl (fun i hi => by rcases (by omega : i = 0 ∨ i = 1 ∨ i = 2) with rfl | rfl | rfl <;> rfl)
    apply Trace.ct (callArgs0 (.cons (.plain rfl) (.cons (.plain rfl) .nil))) sM2 en14
    apply Trace.pu [] (.move (.plain rfl))
    apply Trace.pu [] (.extract (.plain rfl) rfl)
    apply Trace.pu [] (.extract (.plain rfl) rfl)
    apply Trace.alloc 9 [] (.data _) zo32 (cellsAs_data _) rfl
    first | apply Trace.storeD ty32 (.plain rfl) (.plain rfl) rfl rfl (by simp) (by simp [AV.oneB, single, intsD, rowsD]) (by simp) (spliceL_all (by simp)) | apply Trace.storeD ty32 (.plain rfl) (.plain rfl) rfl rfl (by simp) (by simp [AV.oneB, single, intsD, rowsD]) (by simp) rfl | apply Trace.storeDA ty32 (.plain rfl) (.plain rfl) rfl rfl (by simp) (by simp [AV.oneB, single]) (by simp) rfl | apply Trace.storeLoc ty32 (.plain rfl) (.plain rfl) rfl rfl (by simp) (by simp [AV.oneB, single]) (by simp) rfl | apply Trace.storeRow ty32 (.plain rfl) (.plain rfl) rfl rfl rfl rfl (by decide) (by simp [AV.oneB, single]) rfl (by omega)
    apply Trace.pu [] (.assign (.plain rfl))
    exact .nil _
  · exact keepOK_of hk hn rfl
  apply WPA.seq
  apply WPA.region
  · first | apply Trace.pu [_] (.loadAllD ty25 (.plain rfl) rfl (by simp)) | apply Trace.pu [_] (.loadLocD ty25 (.plain rfl) rfl (fun _ => by simp)) | apply Trace.pu [_] (.loadLoc ty25 (.plain rfl) rfl (fun _ => Nat.le_of_ble_eq_true rfl)) | apply Trace.pu [] (.loadRp ty25 (.plain rfl) (fun _ => by decide)) | apply Trace.pu [] (.loadRp ty25 (.plain rfl) (fun _ => Nat.le_of_ble_eq_true rfl)) | apply Trace.pu [_] (.loadCol ty25 (.plain rfl) rfl rfl (fun _ => by decide) (fun _ => by omega)) | apply Trace.pu [_] (.loadArr ty25 (.plain rfl) rfl)
    apply Trace.buildRows (g := fun i => [Col.ints .i64 [0, 2, 0]].map (Col.at · i)) so22 zo3 rfl (by decide) (by decide) (.cons (.plain rfl) rfl rfl (Nat.le_of_ble_eq_true rfl) (.cons (.plain rfl) rfl rfl (Nat.le_of_ble_eq_true rfl) (.cons (.plain rfl) rfl rfl (Nat.le_of_ble_eq_true rfl) (.nil _ _)))) rfl (fun i hi => by rcases (by omega : i = 0 ∨ i = 1 ∨ i = 2) with rfl | rfl | rfl <;> rfl)
    apply Trace.ct (callArgs0 (.cons (.plain rfl) (.cons (.plain rfl) .nil))) sM3 en14
    apply Trace.pu [] (.move (.plain rfl))
    apply Trace.pu [] (.extract (.plain rfl) rfl)
    apply Trace.pu [] (.extract (.plain rfl) rfl)
    apply Trace.alloc 11 [] (.data _) zo32 (cellsAs_data _) rfl
    first | apply Trace.storeD ty32 (.plain rfl) (.plain rfl) rfl rfl (by simp) (by simp [AV.oneB, single, intsD, rowsD]) (by simp) (spliceL_all (by simp)) | apply Trace.storeD ty32 (.plain rfl) (.plain rfl) rfl rfl (by simp) (by simp [AV.oneB, single, intsD, rowsD]) (by simp) rfl | apply Trace.storeDA ty32 (.plain rfl) (.plain rfl) rfl rfl (by simp) (by simp [AV.oneB, single]) (by simp) rfl | apply Trace.storeLoc ty32 (.plain rfl) (.plain rfl) rfl rfl (by simp) (by simp [AV.oneB, single]) (by simp) rfl | apply Trace.storeRow ty32 (.plain rfl) (.plain rfl) rfl rfl rfl rfl (by decide) (by simp [AV.oneB, single]) rfl (by omega)
    apply Trace.pu [] (.assign (.plain rfl))
    exact .nil _
  · exact keepOK_of hk hn rfl
  apply WPA.seq
  apply WPA.region
  · first | apply Trace.pu [_] (.loadAllD ty25 (.plain rfl) rfl (by simp)) | apply Trace.pu [_] (.loadLocD ty25 (.plain rfl) rfl (fun _ => by simp)) | apply Trace.pu [_] (.loadLoc ty25 (.plain rfl) rfl (fun _ => Nat.le_of_ble_eq_true rfl)) | apply Trace.pu [] (.loadRp ty25 (.plain rfl) (fun _ => by decide)) | apply Trace.pu [] (.loadRp ty25 (.plain rfl) (fun _ => Nat.le_of_ble_eq_true rfl)) | apply Trace.pu [_] (.loadCol ty25 (.plain rfl) rfl rfl (fun _ => by decide) (fun _ => by omega)) | apply Trace.pu [_] (.loadArr ty25 (.plain rfl) rfl)
    apply Trace.ct (callArgs0 (.cons (.plain rfl) .nil)) sL2 en12
    apply Trace.pu [] (.move (.plain rfl))
    apply Trace.pu [] (.extract (.plain rfl) rfl)
    apply Trace.pu [] (.extract (.plain rfl) rfl)
    apply Trace.pu [] (.assign (.plain rfl))
    apply Trace.pu [] (.assign (.plain rfl))
    exact .nil _
  · exact keepOK_of hk hn rfl
  apply WPA.seq
  apply WPA.region
  · first | apply Trace.pu [_] (.loadAllD ty25 (.plain rfl) rfl (by simp)) | apply Trace.pu [_] (.loadLocD ty25 (.plain rfl) rfl (fun _ => by simp)) | apply Trace.pu [_] (.loadLoc ty25 (.plain rfl) rfl (fun _ => Nat.le_of_ble_eq_true rfl)) | apply Trace.pu [] (.loadRp ty25 (.plain rfl) (fun _ => by decide)) | apply Trace.pu [] (.loadRp ty25 (.plain rfl) (fun _ => Nat.le_of_ble_eq_true rfl)) | apply Trace.pu [_] (.loadCol ty25 (.plain rfl) rfl rfl (fun _ => by decide) (fun _ => by omega)) | apply Trace.pu [_] (.loadArr ty25 (.plain rfl) rfl)
    apply Trace.pu [] (.move (.plain rfl))
    apply Trace.ct (callArgs0 (.cons (.plain rfl) (.cons (.plain rfl) .nil))) sM4 en14
    apply Trace.pu [] (.move (.plain rfl))
    apply Trace.pu [] (.extract (.plain rfl) rfl)
    apply Trace.pu [] (.extract (.plain rfl) rfl)
    apply Trace.alloc 15 [] (.data _) zo32 (cellsAs_data _) rfl
    first | apply Trace.storeD ty32 (.plain rfl) (.plain rfl) rfl rfl (by simp) (by simp [AV.oneB, single, intsD, rowsD]) (by simp) (spliceL_all (by simp)) | apply Trace.storeD ty32 (.plain rfl) (.plain rfl) rfl rfl (by simp) (by simp [AV.oneB, single, intsD, rowsD]) (by simp) rfl | apply Trace.storeDA ty32 (.plain rfl) (.plain rfl) rfl rfl (by simp) (by simp [AV.oneB, single]) (by simp) rfl | apply Trace.storeLoc ty32 (.plain rfl) (.plain rfl) rfl rfl (by simp) (by simp [AV.oneB, single]) (by simp) rfl | apply Trace.storeRow ty32 (.plain rfl) (.plain rfl) rfl rfl rfl rfl (by decide) (by simp [AV.oneB, single]) rfl (by omega)
    apply Trace.pu [] (.assign (.plain rfl))
    exact .nil _
  · exact keepOK_of hk hn rfl
  apply WPA.seq
  apply WPA.region
  · apply Trace.pu [] (.build zo25 pl25 (.nil _ _) rfl)
    apply Trace.ct (callArgs0 (.cons (.plain rfl) .nil)) (FnSpec.argLe (A1 := []) (A2 := []) sK3 (den_aggLe (.rows (.rows .nil)))) en19
    apply Trace.pu [] (.move (.plain rfl))
    apply Trace.pu [] (.extract (.plain rfl) rfl)
    apply Trace.pu [] (.extract (.plain rfl) rfl)
    apply Trace.alloc 17 [] (.data _) zo32 (cellsAs_data _) rfl
    first | apply Trace.storeD ty32 (.plain rfl) (.plain rfl) rfl rfl (by simp) (by simp [AV.oneB, single, intsD, rowsD]) (by simp) (spliceL_all (by simp)) | apply Trace.storeD ty32 (.plain rfl) (.plain rfl) rfl rfl (by simp) (by simp [AV.oneB, single, intsD, rowsD]) (by simp) rfl | apply Trace.storeDA ty32 (.plain rfl) (.plain rfl) rfl rfl (by simp) (by simp [AV.oneB, single]) (by simp) rfl | apply Trace.storeLoc ty32 (.plain rfl) (.plain rfl) rfl rfl (by simp) (by simp [AV.oneB, single]) (by simp) rfl | apply Trace.storeRow ty32 (.plain rfl) (.plain rfl) rfl rfl rfl rfl (by decide) (by simp [AV.oneB, single]) rfl (by omega)
    apply Trace.pu [] (.assign (.plain rfl))
    exact .nil _
  · exact keepOK_of hk hn rfl
  apply WPA.seq
  apply WPA.region
  · apply Trace.buildRows (g := fun i => [Col.ints .i64 [9]].map (Col.at · i)) so22 zo3 rfl (by decide) (by decide) (.cons (.plain rfl) rfl rfl (Nat.le_of_ble_eq_true rfl) (.nil _ _)) rfl (fun i hi => by cases i with | zero => rfl | succ k => omega)
    apply Trace.pu [] (.build zo25 pl25 (.cons (.plain rfl) rfl rfl (Nat.le_of_ble_eq_true rfl) (.nil _ _)) rfl)
    apply Trace.ct (callArgs0 (.cons (.plain rfl) .nil)) (FnSpec.argLe (A1 := []) (A2 := []) sL4 (den_aggLe (.same (.rows .nil)))) en12
    apply Trace.pu [] (.move (.plain rfl))
    apply Trace.pu [] (.extract (.plain rfl) rfl)
    apply Trace.pu [] (.extract (.plain rfl) rfl)
    apply Trace.pu [] (.assign (.plain rfl))
    apply Trace.pu [] (.assign (.plain rfl))
    exact .nil _
  · exact keepOK_of hk hn rfl
  apply WPA.seq
  apply WPA.seq
  apply WPA.region
  · apply Trace.pu [] (.move (.plain rfl))
    apply Trace.pu [] (.cmp (.plain rfl) (.plain rfl) rfl)
    apply Trace.pu [] (.move (.plain rfl))
    apply Trace.pg [] rfl (.move (.plain rfl))
    apply Trace.pg [] rfl (.cmp (.gd rfl (fun h => h)) (.plain rfl) rfl)
    apply Trace.pu [] (.pick (.plain rfl) (.plain rfl) (.gd rfl (by simp)))
    apply Trace.pu [] (.move (.plain rfl))
    apply Trace.pg [] rfl (.move (.plain rfl))
    apply Trace.pg [] rfl (.cmp (.gd rfl (fun h => h)) (.plain rfl) rfl)
    apply Trace.pu [] (.pick (.plain rfl) (.plain rfl) (.gd rfl (by simp)))
    apply Trace.pu [] (.move (.plain rfl))
    apply Trace.pg [] rfl (.move (.plain rfl))
    apply Trace.pg [] rfl (.cmp (.gd rfl (fun h => h)) (.plain rfl) rfl)
    apply Trace.pu [] (.pick (.plain rfl) (.plain rfl) (.gd rfl (by simp)))
    apply Trace.pu [] (.move (.plain rfl))
    apply Trace.pg [] rfl (.move (.plain rfl))
    apply Trace.pg [] rfl (.cmp (.gd rfl (fun h => h)) (.plain rfl) rfl)
    apply Trace.pu [] (.pick (.plain rfl) (.plain rfl) (.gd rfl (by simp)))
    apply Trace.pu [] (.move (.plain rfl))
    apply Trace.pg [] rfl (.move (.plain rfl))
    apply Trace.pg [] rfl (.cmp (.gd rfl (fun h => h)) (.plain rfl) rfl)
    apply Trace.pu [] (.pick (.plain rfl) (.plain rfl) (.gd rfl (by simp)))
    apply Trace.pu [] (.move (.plain rfl))
    apply Trace.pg [] rfl (.move (.plain rfl))
    apply Trace.pg [] rfl (.cmp (.gd rfl (fun h => h)) (.plain rfl) rfl)
    apply Trace.pu [] (.pick (.plain rfl) (.plain rfl) (.gd rfl (by simp)))
    apply Trace.pu [] (.move (.plain rfl))
    apply Trace.pg [] rfl (.move (.plain rfl))
    apply Trace.pg [] rfl (.cmp (.gd rfl (fun h => h)) (.plain rfl) rfl)
    apply Trace.pu [] (.pick (.plain rfl) (.plain rfl) (.gd rfl (by simp)))
    apply Trace.pu [] (.move (.plain rfl))
    apply Trace.pg [] rfl (.move (.plain rfl))
    apply Trace.pg [] rfl (.cmp (.gd rfl (fun h => h)) (.plain rfl) rfl)
    apply Trace.pu [] (.pick (.plain rfl) (.plain rfl) (.gd rfl (by simp)))
    exact .nil _
  · exact keepOK_of hk hn rfl
  refine WPA.cond rfl (fun hc1 => ?_) (fun hc1 => ?_)
  · exact absurd hc1 (by decide)
  · apply WPA.skip
    apply WPA.seq
    apply WPA.region
    · apply Trace.pu [] (.move (.plain rfl))
      apply Trace.buildRows (g := fun i => [Col.ints .i64 [0, 3, 0]].map (Col.at · i)) so22 zo3 rfl (by decide) (by decide) (.cons (.plain rfl) rfl rfl (Nat.le_of_ble_eq_true rfl) (.cons (.plain rfl) rfl rfl (Nat.le_of_ble_eq_true rfl) (.cons (.plain rfl) rfl rfl (Nat.le_of_ble_eq_true rfl) (.nil _ _)))) rfl (fun i hi => by rcases (by omega : i = 0 ∨ i = 1 ∨ i = 2) with rfl | rfl | rfl <;> rfl)
      apply Trace.cu (callArgs0 (.cons (.plain rfl) (.cons (.plain rfl) .nil))) (siT (a := [0, 3, 0]) (b := [0, 3, 0]) (by decide) rfl) en16
      apply Trace.pu [] (.move (.plain rfl))
      first | apply Trace.pg [_] rfl (.loadAllD ty32 (.plain rfl) rfl (by simp)) | apply Trace.pg [_] rfl (.loadLocD ty32 (.plain rfl) rfl (fun _ => by simp)) | apply Trace.pg [_] rfl (.loadLoc ty32 (.plain rfl) rfl (fun _ => Nat.le_of_ble_eq_true rfl)) | apply Trace.pg [] rfl (.loadRp ty32 (.plain rfl) (fun _ => by decide)) | apply Trace.pg [] rfl (.loadRp ty32 (.plain rfl) (fun _ => Nat.le_of_ble_eq_true rfl)) | apply Trace.pg [_] rfl (.loadCol ty32 (.plain rfl) rfl rfl (fun _ => by decide) (fun _ => by omega)) | apply Trace.pg [_] rfl (.loadArr ty32 (.plain rfl) rfl)
      apply Trace.og rfl
      apply Trace.buildRows (g := fun i => [Col.ints .i64 [0, 3, 3]].map (Col.at · i)) so22 zo3 rfl (by decide) (by decide) (.cons (.plain rfl) rfl rfl (Nat.le_of_ble_eq_true rfl) (.cons (.plain rfl) rfl rfl (Nat.le_of_ble_eq_true rfl) (.cons (.plain rfl) rfl rfl (Nat.le_of_ble_eq_true rfl) (.nil _ _)))) rfl (fun i hi => by rcases (by omega : i = 0 ∨ i = 1 ∨ i = 2) with rfl | rfl | rfl <;> rfl)
      apply Trace.og rfl
      apply Trace.buildRows (g := fun i => [Col.ints .i64 [0, 0]].map (Col.at · i)) so22 zo3 rfl (by decide) (by decide) (.cons (.plain rfl) rfl rfl (Nat.le_of_ble_eq_true rfl) (.cons (.plain rfl) rfl rfl (Nat.le_of_ble_eq_true rfl) (.nil _ _))) rfl (fun i hi => by rcases (by omega : i = 0 ∨ i = 1) with rfl | rfl <;> rfl)
      apply Trace.pg [] rfl (.buildG zo32 pl32 (.cons (.plain rfl) rfl rfl (Nat.le_of_ble_eq_true rfl) (.cons (.plain rfl) rfl rfl (Nat.le_of_ble_eq_true rfl) (.nil _ _))))
      apply Trace.cg rfl (callArgs0 (.cons (.gd rfl (fun h => h)) (.cons (.gd rfl (fun h => h)) .nil))) (fun _ => saT (p := ⟨[0, 3, 3], [0, 0], 0⟩) (q := ⟨[0, 3, 3], [0, 0], 0⟩) (by decide) (by decide) rfl) en17
      apply Trace.pu [] (.pick (.plain rfl) (.gd rfl (by simp)) (.plain rfl))
      apply Trace.pu [] (.move (.plain rfl))
      first | apply Trace.pg [_] rfl (.loadAllD ty32 (.plain rfl) rfl (by simp)) | apply Trace.pg [_] rfl (.loadLocD ty32 (.plain rfl) rfl (fun _ => by simp)) | apply Trace.pg [_] rfl (.loadLoc ty32 (.plain rfl) rfl (fun _ => Nat.le_of_ble_eq_true rfl)) | apply Trace.pg [] rfl (.loadRp ty32 (.plain rfl) (fun _ => by decide)) | apply Trace.pg [] rfl (.loadRp ty32 (.plain rfl) (fun _ => Nat.le_of_ble_eq_true rfl)) | apply Trace.pg [_] rfl (.loadCol ty32 (.plain rfl) rfl rfl (fun _ => by decide) (fun _ => by omega)) | apply Trace.pg [_] rfl (.loadArr ty32 (.plain rfl) rfl)
      apply Trace.og rfl
      apply Trace.buildRows (g := fun i => [Col.ints .i64 [0, 3, 0]].map (Col.at · i)) so22 zo3 rfl (by decide) (by decide) (.cons (.plain rfl) rfl rfl (Nat.le_of_ble_eq_true rfl) (.cons (.plain rfl) rfl rfl (Nat.le_of_ble_eq_true rfl) (.cons (.plain rfl) rfl rfl (Nat.le_of_ble_eq_true rfl) (.nil _ _)))) rfl (fun i hi => by rcases (by omega : i = 0 ∨ i = 1 ∨ i = 2) with rfl | rfl | rfl <;> rfl)
      apply Trace.og rfl
      apply Trace.buildRows (g := fun i => [Col.ints .i64 [0, 3]].map (Col.at · i)) so22 zo3 rfl (by decide) (by decide) (.cons (.plain rfl) rfl rfl (Nat.le_of_ble_eq_true rfl) (.cons (.plain rfl) rfl rfl (Nat.le_of_ble_eq_true rfl) (.nil _ _))) rfl (fun i hi => by rcases (by omega : i = 0 ∨ i = 1) with rfl | rfl <;> rfl)
      apply Trace.pg [] rfl (.buildG zo32 pl32 (.cons (.plain rfl) rfl rfl (Nat.le_of_ble_eq_true rfl) (.cons (.plain rfl) rfl rfl (Nat.le_of_ble_eq_true rfl) (.cons (.plain rfl) rfl rfl (Nat.le_of_ble_eq_true rfl) (.nil _ _)))))
      apply Trace.cg rfl (callArgs0 (.cons (.gd rfl (fun h => h)) (.cons (.gd rfl (fun h => h)) .nil))) (fun _ => saT (p := ⟨[0, 3, 0], [0, 3], 6⟩) (q := ⟨[0, 3, 0], [0, 3], 6⟩) (by decide) (by decide) rfl) en17
      apply Trace.pu [] (.pick (.plain rfl) (.gd rfl (by simp)) (.plain rfl))
      apply Trace.pu [] (.move (.plain rfl))
      apply Trace.pg [] rfl (.move (.plain rfl))
      apply Trace.og rfl
      apply Trace.buildRows (g := fun i => [Col.ints .i64 [0, 0]].map (Col.at · i)) so22 zo3 rfl (by decide) (by decide) (.cons (.plain rfl) rfl rfl (Nat.le_of_ble_eq_true rfl) (.cons (.plain rfl) rfl rfl (Nat.le_of_ble_eq_true rfl) (.nil _ _))) rfl (fun i hi => by rcases (by omega : i = 0 ∨ i = 1) with rfl | rfl <;> rfl)
      apply Trace.cg rfl (callArgs0 (.cons (.gd rfl (fun h => h)) (.cons (.plain rfl) .nil))) (fun _ => siT (a := [0, 0]) (b := [0, 0]) (by decide) rfl) en16
      apply Trace.pu [] (.pick (.plain rfl) (.gd rfl (by simp)) (.plain rfl))
      apply Trace.pu [] (.move (.plain rfl))
      first | apply Trace.pg [_] rfl (.loadAllD ty32 (.plain rfl) rfl (by simp)) | apply Trace.pg [_] rfl (.loadLocD ty32 (.plain rfl) rfl (fun _ => by simp)) | apply Trace.pg [_] rfl (.loadLoc ty32 (.plain rfl) rfl (fun _ => Nat.le_of_ble_eq_true rfl)) | apply Trace.pg [] rfl (.loadRp ty32 (.plain rfl) (fun _ => by decide)) | apply Trace.pg [] rfl (.loadRp ty32 (.plain rfl) (fun _ => Nat.le_of_ble_eq_true rfl)) | apply Trace.pg [_] rfl (.loadCol ty32 (.plain rfl) rfl rfl (fun _ => by decide) (fun _ => by omega)) | apply Trace.pg [_] rfl (.loadArr ty32 (.plain rfl) rfl)
      apply Trace.og rfl
      apply Trace.buildRows (g := fun i => [Col.ints .i64 [0, 0]].map (Col.at · i)) so22 zo3 rfl (by decide) (by decide) (.cons (.plain rfl) rfl rfl (Nat.le_of_ble_eq_true rfl) (.cons (.plain rfl) rfl rfl (Nat.le_of_ble_eq_true rfl) (.nil _ _))) rfl (fun i hi => by rcases (by omega : i = 0 ∨ i = 1) with rfl | rfl <;> rfl)
      apply Trace.og rfl
      apply Trace.buildRows (g := fun i => [Col.ints .i64 [3]].map (Col.at · i)) so22 zo3 rfl (by decide) (by decide) (.cons (.plain rfl) rfl rfl (Nat.le_of_ble_eq_true rfl) (.nil _ _)) rfl (fun i hi => by cases i with | zero => rfl | succ k => omega)
      apply Trace.pg [] rfl (.buildG zo32 pl32 (.cons (.plain rfl) rfl rfl (Nat.le_of_ble_eq_true rfl) (.cons (.plain rfl) rfl rfl (Nat.le_of_ble_eq_true rfl) (.cons (.plain rfl) rfl rfl (Nat.le_of_ble_eq_true rfl) (.nil _ _)))))
      apply Trace.cg rfl (callArgs0 (.cons (.gd rfl (fun h => h)) (.cons (.gd rfl (fun h => h)) .nil))) (fun _ => saT (p := ⟨[0, 0], [3], 3⟩) (q := ⟨[0, 0], [3], 3⟩) (by decide) (by decide) rfl) en17
      apply Trace.pu [] (.pick (.plain rfl) (.gd rfl (by simp)) (.plain rfl))
      apply Trace.pu [] (.move (.plain rfl))
      first | apply Trace.pg [_] rfl (.loadAllD ty32 (.plain rfl) rfl (by simp)) | apply Trace.pg [_] rfl (.loadLocD ty32 (.plain rfl) rfl (fun _ => by simp)) | apply Trace.pg [_] rfl (.loadLoc ty32 (.plain rfl) rfl (fun _ => Nat.le_of_ble_eq_true rfl)) | apply Trace.pg [] rfl (.loadRp ty32 (.plain rfl) (fun _ => by decide)) | apply Trace.pg [] rfl (.loadRp ty32 (.plain rfl) (fun _ => Nat.le_of_ble_eq_true rfl)) | apply Trace.pg [_] rfl (.loadCol ty32 (.plain rfl) rfl rfl (fun _ => by decide) (fun _ => by omega)) | apply Trace.pg [_] rfl (.loadArr ty32 (.plain rfl) rfl)
      apply Trace.pg [] rfl (.buildG zo32 pl32 (.nil _ _))
      apply Trace.cg rfl (callArgs0 (.cons (.gd rfl (fun h => h)) (.cons (.gd rfl (fun h => h)) .nil))) (fun _ => FnSpec.argLe (A1 := [_]) (A2 := []) (saT (p := ⟨[], [], 0⟩) (q := ⟨[], [], 0⟩) (by decide) (by decide) rfl) (den_aggLe (.rows (.rows (.same .nil))))) en17
      apply Trace.pu [] (.pick (.plain rfl) (.gd rfl (by simp)) (.plain rfl))
      apply Trace.pu [] (.move (.plain rfl))
      apply Trace.pg [] rfl (.move (.plain rfl))
      apply Trace.og rfl
      apply Trace.buildRows (g := fun i => [Col.ints .i64 [0]].map (Col.at · i)) so22 zo3 rfl (by decide) (by decide) (.cons (.plain rfl) rfl rfl (Nat.le_of_ble_eq_true rfl) (.nil _ _)) rfl (fun i hi => by cases i with | zero => rfl | succ k => omega)
      apply Trace.cg rfl (callArgs0 (.cons (.gd rfl (fun h => h)) (.cons (.plain rfl) .nil))) (fun _ => siT (a := [0]) (b := [0]) (by decide) rfl) en16
      apply Trace.pu [] (.pick (.plain rfl) (.gd rfl (by simp)) (.plain rfl))
      apply Trace.pu [] (.assign (.plain rfl))
      exact .nil _
    · exact keepOK_of hk hn rfl
    apply WPA.ret
    refine ⟨.inr rfl, ⟨_, (.cons (.tmp rfl) .nil), ?_⟩, by simp [St.get]⟩
    rfl

end Go.Proofs.Ytkieenlidehdgaa

