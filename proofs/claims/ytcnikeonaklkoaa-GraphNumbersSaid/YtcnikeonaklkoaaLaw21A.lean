/- The chapter's examples of graph. -/
import Derived.Test.YtcnikeonaklkoaaReach3F
import Derived.Test.YtcnikeonaklkoaaGuard
namespace Go.Proofs.Ytcnikeonaklkoaa
open Go
set_option linter.unusedVariables false
set_option linter.unusedSimpArgs false
set_option maxRecDepth 100000
set_option maxHeartbeats 1000000

theorem sz_of {g : Gr} (h : (decide (g.lat.length ≤ 4611686018427387904 ∧ g.es.length ≤ 4611686018427387904) && (g.lat.all fun x => decide (-9223372036854775808 ≤ x ∧ x ≤ 9223372036854775807)) &&
    g.es.all fun e => decide ((-9223372036854775808 ≤ e.f ∧ e.f ≤ 9223372036854775807) ∧ (-9223372036854775808 ≤ e.t ∧ e.t ≤ 9223372036854775807) ∧ (-9223372036854775808 ≤ e.w ∧ e.w ≤ 9223372036854775807) ∧ -9223372036854775808 ≤ e.d ∧ e.d ≤ 9223372036854775807)) = true) : g.Sz := by
  simp only [Bool.and_eq_true, decide_eq_true_eq, List.all_eq_true] at h
  exact ⟨h.1.1.1, h.1.1.2, h.1.2, h.2⟩
def pairG (a b : Int) : Gr := ⟨[3, 4], [⟨0, 1, 0, a⟩, ⟨1, 0, 0, b⟩]⟩
def G3 : Gr := ⟨[0, 0], []⟩
def G4 : Gr := ⟨[], []⟩
def G5 : Gr := ⟨[-1], []⟩
def G6 : Gr := ⟨[0], [⟨0, 0, 0, 0⟩]⟩
def G7 : Gr := ⟨[0], [⟨0, 0, 0, 1⟩]⟩
def G8 : Gr := ⟨[0, 0], [⟨0, 2, 0, 0⟩]⟩
def G9 : Gr := ⟨List.replicate 4097 0, []⟩
theorem loN {g : Gr} (hz : g.Sz) {l : List Int} {b : Bool} {c : Int} (h : (g.cyc, g.looped, g.formed) = (l, b, c)) : FnSpec Try.prog 17 [g.av] [] (.tup ([intsD l, .v (.bool b), .v (.int .i64 c)].map .d)) [] [] := by
  have := spec17 g hz
  injection h with h1 h2; injection h2 with h2 h3
  rw [h1, h2, h3] at this
  exact this
theorem reN {g : Gr} (hz : g.Sz) {v : Int} {l : List Int} {c : Int} (h : g.reachP v = (l, c)) : FnSpec Try.prog 14 [g.av, iv .i64 v] [] (.tup ([intsD l, .v (.int .i64 c)].map .d)) [] [] := by
  have := spec14 g hz v
  rw [h] at this
  exact this
theorem chN {g : Gr} (hz : g.Sz) {c : Int} (h : g.check = c) : FnSpec Try.prog 12 [g.av] [] (iv .i64 c) [] [] := by
  have := spec12 g hz
  rwa [h] at this
theorem P7 : (pairG 0 7).Sz := sz_of (by decide +kernel)
theorem P8 : (pairG 0 8).Sz := sz_of (by decide +kernel)
theorem c21L1 : FnSpec Try.prog 17 [(pairG 0 7).av] [] (.tup ([intsD [1, 0], .v (.bool true), .v (.int .i64 0)].map .d)) [] [] := loN P7 (by decide +kernel)
theorem c21L2 : FnSpec Try.prog 17 [(pairG 0 8).av] [] (.tup ([intsD [], .v (.bool false), .v (.int .i64 0)].map .d)) [] [] := loN P8 (by decide +kernel)
theorem c21L3 : FnSpec Try.prog 17 [G5.av] [] (.tup ([intsD [], .v (.bool false), .v (.int .i64 210)].map .d)) [] [] := loN (sz_of (by decide +kernel)) (by decide +kernel)
theorem c21R1 : FnSpec Try.prog 14 [(pairG 0 8).av, iv .i64 1] [] (.tup ([intsD [0, 1], .v (.int .i64 0)].map .d)) [] [] := reN P8 (by decide +kernel)
theorem c21R2 : FnSpec Try.prog 14 [G3.av, iv .i64 1] [] (.tup ([intsD [1], .v (.int .i64 0)].map .d)) [] [] := reN (sz_of (by decide +kernel)) (by decide +kernel)
theorem c21R3 : FnSpec Try.prog 14 [G4.av, iv .i64 0] [] (.tup ([intsD [], .v (.int .i64 1)].map .d)) [] [] := reN (sz_of (by decide +kernel)) (by decide +kernel)
theorem c21C1 : FnSpec Try.prog 12 [G4.av] [] (iv .i64 0) [] [] := chN (sz_of (by decide +kernel)) (by decide +kernel)
theorem c21C2 : FnSpec Try.prog 12 [G6.av] [] (iv .i64 211) [] [] := chN (sz_of (by decide +kernel)) (by decide +kernel)
theorem c21C3 : FnSpec Try.prog 12 [G7.av] [] (iv .i64 0) [] [] := chN (sz_of (by decide +kernel)) (by decide +kernel)
theorem c21C4 : FnSpec Try.prog 12 [(pairG 0 7).av] [] (iv .i64 211) [] [] := chN P7 (by decide +kernel)
theorem c21C5 : FnSpec Try.prog 12 [(pairG 0 8).av] [] (iv .i64 0) [] [] := chN P8 (by decide +kernel)
theorem c21C6 : FnSpec Try.prog 12 [G8.av] [] (iv .i64 210) [] [] := chN (sz_of (by decide +kernel)) (by decide +kernel)
abbrev D4097 : D := .rows 1 4097 fun k => [Col.at (.ints .i64 (List.replicate 4097 0)) k]
theorem d4097 : intsD G9.lat = D4097 := by
  show D.rows 1 (List.replicate 4097 (0 : Int)).length _ = D.rows 1 4097 _
  rw [List.length_replicate]; rfl
theorem c21C7 : FnSpec Try.prog 12 [.d (.agg [D4097, .v (.slice none 0 0)])] [] (iv .i64 2) [] [] := by
  have h := chN (g := G9) (sz_of (by decide +kernel)) (c := 2) (by decide +kernel)
  have e : G9.av = .d (.agg [D4097, edgesD []]) := by show AV.d (.agg [intsD G9.lat, edgesD []]) = _; rw [d4097]
  rw [e] at h
  exact FnSpec.argLe (A1 := []) (A2 := []) h (den_aggLe (.same (.rows .nil)))
theorem WPA.region2G {P : Program} {ro : Ro} {ops : Array Oper} {E : Env} {id : Nat} {S S1 S' : St} {L1 L2 : List Ax} {Q : Exit → St → Prop} (k : Nat) {T : St} (h1 : Trace P ro ops (ops.toList.take k) S L1 S1) (hk1 : KeepOK E L1) (hg : ∀ E : Env, Ghost E S1 T) (h2 : Trace P ro ops (ops.toList.drop k) T L2 S') (hk2 : KeepOK E L2) (hkl : k ≤ ops.toList.length) (hq : Q .normal S') :
    WPA P ro E (.region id ops false) S Q := by
  intro a w hr
  obtain ⟨E2, e1, e2, hr2, back⟩ := hr.from
  refine wpIn_region ?_
  have hpn : ∀ x, ro.pan = some x → ∀ a w, Rep E2 x.2 a w → WPost ro E Q (.panic x.1) a w := fun x hp a w hr => .inr ⟨x, hp, rfl, back _ _ _ hr⟩
  have hq' : ∀ a w, Rep E2 S' a w → WPost ro E Q .normal a w := fun a w hr => .inl ⟨S', hq, back _ _ _ hr⟩
  have hl1 : (ops.toList.take k).length = k := by rw [List.length_take]; omega
  have hl2 : (ops.toList.drop k).length = ops.toList.length - k := List.length_drop
  have := wpOpsIn_then (Q := WPost ro E Q) h1 (List.range' k (ops.toList.length - k)) (hk1.env e1 e2) hpn (fun a w hr => by
    have := wpOpsIn_of_trace (Q := WPost ro E Q) h2 (hk2.env e1 e2) hpn hq' k (fun j => by rw [List.getElem?_drop]; simp) a w (hg E2 a w hr)
    rwa [hl2] at this) 0 (fun j hj => by rw [List.getElem?_take_of_lt (by omega)]; simp) a w hr2
  rw [hl1] at this
  have e : List.range ops.size = List.range' 0 k ++ List.range' k (ops.toList.length - k) := by
    rw [List.range_eq_range', ← Array.length_toList]
    have := List.range'_append (s := 0) (m := k) (n := ops.toList.length - k) (step := 1)
    simp only [Nat.one_mul, Nat.zero_add] at this
    rw [this]; congr 1; omega
  rw [e]
  exact this
theorem sm21 {a b : List Int} (ha : a.length ≤ 1000) (h : a = b) : FnSpec Try.prog 16 [.d (intsD a), .d (intsD b)] [] (bv true) [] [] := by
  have := spec16 a b (by omega) (by rw [← h]; omega)
  rwa [decide_eq_true h] at this
/-- soundpost/soundpostlaw21.pair -/
theorem spec20 (a b : Int) : FnSpec Try.prog 20 [iv .i64 a, iv .i64 b] [] ((pairG a b).av) [] [] := by
  refine fnSpec_of (rs := [.cell 4 25]) Try.func20 rfl rfl (Nat.le_of_ble_eq_true rfl) (by simp [St.get]) fun E hk hn => ?_
  apply WPA.seq
  apply WPA.region
  · apply Trace.alloc 4 [] (.data _) zo25 (cellsAs_data _) rfl
    exact .nil _
  · exact keepOK_of hk hn rfl
  apply WPA.seq
  apply WPA.region
  · apply Trace.buildRows (g := fun i => [Col.ints .i64 [3, 4]].map (Col.at · i)) so22 zo3 rfl (by decide) (by decide) (.cons (.plain rfl) rfl rfl (Nat.le_of_ble_eq_true rfl) (.cons (.plain rfl) rfl rfl (Nat.le_of_ble_eq_true rfl) (.nil _ _))) rfl (fun i hi => by rcases (by omega : i = 0 ∨ i = 1) with rfl | rfl <;> rfl)
    apply Trace.pu [] (.move (.plain rfl))
    apply Trace.pu [] (.build zo40 pl40 (.cons (.plain rfl) rfl rfl (Nat.le_of_ble_eq_true rfl) (.cons (.plain rfl) rfl rfl (Nat.le_of_ble_eq_true rfl) (.cons (.plain rfl) rfl rfl (Nat.le_of_ble_eq_true rfl) (.nil _ _)))) rfl)
    apply Trace.pu [] (.move (.plain rfl))
    apply Trace.pu [] (.build zo40 pl40 (.cons (.plain rfl) rfl rfl (Nat.le_of_ble_eq_true rfl) (.cons (.plain rfl) rfl rfl (Nat.le_of_ble_eq_true rfl) (.cons (.plain rfl) rfl rfl (Nat.le_of_ble_eq_true rfl) (.nil _ _)))) rfl)
    apply Trace.buildRows (g := fun k => ((pairG a b).es.getD k default).ds) so23 zo40 rfl (by decide) (by decide) (.cons (.plain rfl) rfl rfl (Nat.le_of_ble_eq_true rfl) (.cons (.plain rfl) rfl rfl (Nat.le_of_ble_eq_true rfl) (.nil _ _))) rfl (fun i hi => by rcases (by omega : i = 0 ∨ i = 1) with rfl | rfl <;> rfl)
    apply Trace.pu [] (.build zo25 pl25 (.cons (.plain rfl) rfl rfl (Nat.le_of_ble_eq_true rfl) (.cons (.plain rfl) rfl rfl (Nat.le_of_ble_eq_true rfl) (.nil _ _))) rfl)
    first | apply Trace.storeD ty25 (.plain rfl) (.plain rfl) rfl rfl (by simp) (by simp [AV.oneB, single, intsD, rowsD]) (by simp) (spliceL_all (by simp)) | apply Trace.storeD ty25 (.plain rfl) (.plain rfl) rfl rfl (by simp) (by simp [AV.oneB, single, intsD, rowsD]) (by simp) rfl | apply Trace.storeDA ty25 (.plain rfl) (.plain rfl) rfl rfl (by simp) (by simp [AV.oneB, single]) (by simp) rfl | apply Trace.storeLoc ty25 (.plain rfl) (.plain rfl) rfl rfl (by simp) (by simp [AV.oneB, single]) (by simp) rfl | apply Trace.storeRow ty25 (.plain rfl) (.plain rfl) rfl rfl rfl rfl (by decide) (by simp [AV.oneB, single]) rfl (by omega)
    exact .nil _
  · exact keepOK_of hk hn rfl
  apply WPA.ret
  refine ⟨.inr rfl, ⟨_, (.cons (.cellD rfl rfl ty25 rfl) .nil), ?_⟩, by simp [St.get]⟩
  rfl

/-- soundpost/soundpostlaw21.sane -/
theorem spec10  : FnSpec Try.prog 10 [] [] (bv true) [] [] := by
  refine fnSpec_of (rs := [.tmp 0]) Try.func10 rfl rfl (Nat.le_of_ble_eq_true rfl) (by simp [St.get]) fun E hk hn => ?_
  apply WPA.seq
  apply WPA.region
  · apply Trace.pu [] (.assign (.plain rfl))
    exact .nil _
  · exact keepOK_of hk hn rfl
  apply WPA.seq
  apply WPA.region
  · apply Trace.cu (callArgs0 (.cons (.plain rfl) (.cons (.plain rfl) .nil))) (spec20 0 7) en20
    apply Trace.ct (callArgs0 (.cons (.plain rfl) .nil)) c21L1 en17
    apply Trace.pu [] (.move (.plain rfl))
    apply Trace.pu [] (.extract (.plain rfl) rfl)
    apply Trace.pu [] (.extract (.plain rfl) rfl)
    apply Trace.pu [] (.extract (.plain rfl) rfl)
    apply Trace.pu [] (.assign (.plain rfl))
    apply Trace.pu [] (.assign (.plain rfl))
    apply Trace.pu [] (.assign (.plain rfl))
    exact .nil _
  · exact keepOK_of hk hn rfl
  apply WPA.seq
  apply WPA.region
  · apply Trace.cu (callArgs0 (.cons (.plain rfl) (.cons (.plain rfl) .nil))) (spec20 0 8) en20
    apply Trace.ct (callArgs0 (.cons (.plain rfl) .nil)) c21L2 en17
    apply Trace.pu [] (.move (.plain rfl))
    apply Trace.pu [] (.extract (.plain rfl) rfl)
    apply Trace.pu [] (.extract (.plain rfl) rfl)
    apply Trace.pu [] (.extract (.plain rfl) rfl)
    apply Trace.pu [] (.assign (.plain rfl))
    apply Trace.pu [] (.assign (.plain rfl))
    apply Trace.pu [] (.assign (.plain rfl))
    exact .nil _
  · exact keepOK_of hk hn rfl
  apply WPA.seq
  apply WPA.region
  · apply Trace.cu (callArgs0 (.cons (.plain rfl) (.cons (.plain rfl) .nil))) (spec20 0 8) en20
    apply Trace.ct (callArgs0 (.cons (.plain rfl) (.cons (.plain rfl) .nil))) c21R1 en14
    apply Trace.pu [] (.move (.plain rfl))
    apply Trace.pu [] (.extract (.plain rfl) rfl)
    apply Trace.pu [] (.extract (.plain rfl) rfl)
    apply Trace.pu [] (.assign (.plain rfl))
    apply Trace.pu [] (.assign (.plain rfl))
    exact .nil _
  · exact keepOK_of hk hn rfl
  apply WPA.seq
  apply WPA.region
  · apply Trace.buildRows (g := fun i => [Col.ints .i64 [0, 0]].map (Col.at · i)) so22 zo3 rfl (by decide) (by decide) (.cons (.plain rfl) rfl rfl (Nat.le_of_ble_eq_true rfl) (.cons (.plain rfl) rfl rfl (Nat.le_of_ble_eq_true rfl) (.nil _ _))) rfl (fun i hi => by rcases (by omega : i = 0 ∨ i = 1) with rfl | rfl <;> rfl)
    apply Trace.pu [] (.build zo25 pl25 (.cons (.plain rfl) rfl rfl (Nat.le_of_ble_eq_true rfl) (.nil _ _)) rfl)
    apply Trace.ct (callArgs0 (.cons (.plain rfl) (.cons (.plain rfl) .nil))) (FnSpec.argLe (A1 := []) (A2 := [_]) c21R2 (den_aggLe (.same (.rows .nil)))) en14
    apply Trace.pu [] (.move (.plain rfl))
    apply Trace.pu [] (.extract (.plain rfl) rfl)
    apply Trace.pu [] (.extract (.plain rfl) rfl)
    apply Trace.pu [] (.assign (.plain rfl))
    apply Trace.pu [] (.assign (.plain rfl))
    exact .nil _
  · exact keepOK_of hk hn rfl
  apply WPA.seq
  apply WPA.region
  · apply Trace.pu [] (.build zo25 pl25 (.nil _ _) rfl)
    apply Trace.ct (callArgs0 (.cons (.plain rfl) (.cons (.plain rfl) .nil))) (FnSpec.argLe (A1 := []) (A2 := [_]) c21R3 (den_aggLe (.rows (.rows .nil)))) en14
    apply Trace.pu [] (.move (.plain rfl))
    apply Trace.pu [] (.extract (.plain rfl) rfl)
    apply Trace.pu [] (.extract (.plain rfl) rfl)
    apply Trace.pu [] (.assign (.plain rfl))
    apply Trace.pu [] (.assign (.plain rfl))
    exact .nil _
  · exact keepOK_of hk hn rfl
  apply WPA.seq
  apply WPA.region
  · apply Trace.buildRows (g := fun i => [Col.ints .i64 [-1]].map (Col.at · i)) so22 zo3 rfl (by decide) (by decide) (.cons (.plain rfl) rfl rfl (Nat.le_of_ble_eq_true rfl) (.nil _ _)) rfl (fun i hi => by cases i with | zero => rfl | succ k => omega)
    apply Trace.pu [] (.build zo25 pl25 (.cons (.plain rfl) rfl rfl (Nat.le_of_ble_eq_true rfl) (.nil _ _)) rfl)
    apply Trace.ct (callArgs0 (.cons (.plain rfl) .nil)) (FnSpec.argLe (A1 := []) (A2 := []) c21L3 (den_aggLe (.same (.rows .nil)))) en17
    apply Trace.pu [] (.move (.plain rfl))
    apply Trace.pu [] (.extract (.plain rfl) rfl)
    apply Trace.pu [] (.extract (.plain rfl) rfl)
    apply Trace.pu [] (.extract (.plain rfl) rfl)
    apply Trace.pu [] (.assign (.plain rfl))
    apply Trace.pu [] (.assign (.plain rfl))
    apply Trace.pu [] (.assign (.plain rfl))
    exact .nil _
  · exact keepOK_of hk hn rfl
  apply WPA.seq
  apply WPA.region
  · apply Trace.buildRows (g := fun i => [Col.ints .i64 [0]].map (Col.at · i)) so22 zo3 rfl (by decide) (by decide) (.cons (.plain rfl) rfl rfl (Nat.le_of_ble_eq_true rfl) (.nil _ _)) rfl (fun i hi => by cases i with | zero => rfl | succ k => omega)
    apply Trace.pu [] (.build zo40 pl40 (.nil _ _) rfl)
    apply Trace.buildRows (g := fun k => ((G6).es.getD k default).ds) so23 zo40 rfl (by decide) (by decide) (.cons (.plain rfl) rfl rfl (Nat.le_of_ble_eq_true rfl) (.nil _ _)) rfl (fun i hi => by cases i with | zero => rfl | succ k => omega)
    apply Trace.pu [] (.build zo25 pl25 (.cons (.plain rfl) rfl rfl (Nat.le_of_ble_eq_true rfl) (.cons (.plain rfl) rfl rfl (Nat.le_of_ble_eq_true rfl) (.nil _ _))) rfl)
    apply Trace.alloc 16 [] (.data _) zo25 (cellsAs_data _) rfl
    first | apply Trace.storeD ty25 (.plain rfl) (.plain rfl) rfl rfl (by simp) (by simp [AV.oneB, single, intsD, rowsD]) (by simp) (spliceL_all (by simp)) | apply Trace.storeD ty25 (.plain rfl) (.plain rfl) rfl rfl (by simp) (by simp [AV.oneB, single, intsD, rowsD]) (by simp) rfl | apply Trace.storeDA ty25 (.plain rfl) (.plain rfl) rfl rfl (by simp) (by simp [AV.oneB, single]) (by simp) rfl | apply Trace.storeLoc ty25 (.plain rfl) (.plain rfl) rfl rfl (by simp) (by simp [AV.oneB, single]) (by simp) rfl | apply Trace.storeRow ty25 (.plain rfl) (.plain rfl) rfl rfl rfl rfl (by decide) (by simp [AV.oneB, single]) rfl (by omega)
    exact .nil _
  · exact keepOK_of hk hn rfl
  apply WPA.seq
  apply WPA.region
  · apply Trace.buildRows (g := fun i => [Col.ints .i64 [0]].map (Col.at · i)) so22 zo3 rfl (by decide) (by decide) (.cons (.plain rfl) rfl rfl (Nat.le_of_ble_eq_true rfl) (.nil _ _)) rfl (fun i hi => by cases i with | zero => rfl | succ k => omega)
    apply Trace.pu [] (.build zo40 pl40 (.cons (.plain rfl) rfl rfl (Nat.le_of_ble_eq_true rfl) (.nil _ _)) rfl)
    apply Trace.buildRows (g := fun k => ((G7).es.getD k default).ds) so23 zo40 rfl (by decide) (by decide) (.cons (.plain rfl) rfl rfl (Nat.le_of_ble_eq_true rfl) (.nil _ _)) rfl (fun i hi => by cases i with | zero => rfl | succ k => omega)
    apply Trace.pu [] (.build zo25 pl25 (.cons (.plain rfl) rfl rfl (Nat.le_of_ble_eq_true rfl) (.cons (.plain rfl) rfl rfl (Nat.le_of_ble_eq_true rfl) (.nil _ _))) rfl)
    apply Trace.alloc 17 [] (.data _) zo25 (cellsAs_data _) rfl
    first | apply Trace.storeD ty25 (.plain rfl) (.plain rfl) rfl rfl (by simp) (by simp [AV.oneB, single, intsD, rowsD]) (by simp) (spliceL_all (by simp)) | apply Trace.storeD ty25 (.plain rfl) (.plain rfl) rfl rfl (by simp) (by simp [AV.oneB, single, intsD, rowsD]) (by simp) rfl | apply Trace.storeDA ty25 (.plain rfl) (.plain rfl) rfl rfl (by simp) (by simp [AV.oneB, single]) (by simp) rfl | apply Trace.storeLoc ty25 (.plain rfl) (.plain rfl) rfl rfl (by simp) (by simp [AV.oneB, single]) (by simp) rfl | apply Trace.storeRow ty25 (.plain rfl) (.plain rfl) rfl rfl rfl rfl (by decide) (by simp [AV.oneB, single]) rfl (by omega)
    exact .nil _
  · exact keepOK_of hk hn rfl
  apply WPA.seq
  apply WPA.seq
  apply WPA.region
  · apply Trace.pu [] (.move (.plain rfl))
    apply Trace.pu [] (.cmp (.plain rfl) (.plain rfl) rfl)
    apply Trace.pu [] (.move (.plain rfl))
    apply Trace.pg [] rfl (.move (.plain rfl))
    apply Trace.pg [] rfl (.cmp (.gd rfl (fun h => h)) (.plain rfl) rfl)
    apply Trace.pu [] (.pick (.plain rfl) (.plain rfl) (.gd rfl (by simp)))
    apply Trace.pu [] (.move (.plain rfl))
    apply Trace.pg [] rfl (.move (.plain rfl))
    apply Trace.pg [] rfl (.cmp (.gd rfl (fun h => h)) (.plain rfl) rfl)
    apply Trace.pu [] (.pick (.plain rfl) (.plain rfl) (.gd rfl (by simp)))
    apply Trace.pu [] (.move (.plain rfl))
    apply Trace.pg [] rfl (.move (.plain rfl))
    apply Trace.pg [] rfl (.cmp (.gd rfl (fun h => h)) (.plain rfl) rfl)
    apply Trace.pu [] (.pick (.plain rfl) (.plain rfl) (.gd rfl (by simp)))
    apply Trace.pu [] (.move (.plain rfl))
    apply Trace.pg [] rfl (.move (.plain rfl))
    apply Trace.pg [] rfl (.cmp (.gd rfl (fun h => h)) (.plain rfl) rfl)
    apply Trace.pu [] (.pick (.plain rfl) (.plain rfl) (.gd rfl (by simp)))
    apply Trace.pu [] (.move (.plain rfl))
    apply Trace.pg [] rfl (.move (.plain rfl))
    apply Trace.pg [] rfl (.cmp (.gd rfl (fun h => h)) (.plain rfl) rfl)
    apply Trace.pu [] (.pick (.plain rfl) (.plain rfl) (.gd rfl (by simp)))
    apply Trace.pu [] (.move (.plain rfl))
    apply Trace.pg [] rfl (.buildG zo25 pl25 (.nil _ _))
    apply Trace.cg rfl (callArgs0 (.cons (.gd rfl (fun h => h)) .nil)) (fun _ => FnSpec.argLe (A1 := []) (A2 := []) c21C1 (den_aggLe (.rows (.rows .nil)))) en12
    apply Trace.pg [] rfl (.cmp (.gd rfl (fun h => h)) (.plain rfl) rfl)
    apply Trace.pu [] (.pick (.plain rfl) (.plain rfl) (.gd rfl (by simp)))
    apply Trace.pu [] (.move (.plain rfl))
    first | apply Trace.pg [_] rfl (.loadAllD ty25 (.plain rfl) rfl (by simp)) | apply Trace.pg [_] rfl (.loadLocD ty25 (.plain rfl) rfl (fun _ => by simp)) | apply Trace.pg [_] rfl (.loadLoc ty25 (.plain rfl) rfl (fun _ => Nat.le_of_ble_eq_true rfl)) | apply Trace.pg [] rfl (.loadRp ty25 (.plain rfl) (fun _ => by decide)) | apply Trace.pg [] rfl (.loadRp ty25 (.plain rfl) (fun _ => Nat.le_of_ble_eq_true rfl)) | apply Trace.pg [_] rfl (.loadCol ty25 (.plain rfl) rfl rfl (fun _ => by decide) (fun _ => by omega)) | apply Trace.pg [_] rfl (.loadArr ty25 (.plain rfl) rfl)
    apply Trace.cg rfl (callArgs0 (.cons (.gd rfl (fun h => h)) .nil)) (fun _ => c21C2) en12
    apply Trace.pg [] rfl (.cmp (.gd rfl (fun h => h)) (.plain rfl) rfl)
    apply Trace.pu [] (.pick (.plain rfl) (.plain rfl) (.gd rfl (by simp)))
    apply Trace.pu [] (.move (.plain rfl))
    first | apply Trace.pg [_] rfl (.loadAllD ty25 (.plain rfl) rfl (by simp)) | apply Trace.pg [_] rfl (.loadLocD ty25 (.plain rfl) rfl (fun _ => by simp)) | apply Trace.pg [_] rfl (.loadLoc ty25 (.plain rfl) rfl (fun _ => Nat.le_of_ble_eq_true rfl)) | apply Trace.pg [] rfl (.loadRp ty25 (.plain rfl) (fun _ => by decide)) | apply Trace.pg [] rfl (.loadRp ty25 (.plain rfl) (fun _ => Nat.le_of_ble_eq_true rfl)) | apply Trace.pg [_] rfl (.loadCol ty25 (.plain rfl) rfl rfl (fun _ => by decide) (fun _ => by omega)) | apply Trace.pg [_] rfl (.loadArr ty25 (.plain rfl) rfl)
    apply Trace.cg rfl (callArgs0 (.cons (.gd rfl (fun h => h)) .nil)) (fun _ => c21C3) en12
    apply Trace.pg [] rfl (.cmp (.gd rfl (fun h => h)) (.plain rfl) rfl)
    apply Trace.pu [] (.pick (.plain rfl) (.plain rfl) (.gd rfl (by simp)))
    exact .nil _
  · exact keepOK_of hk hn rfl
  refine WPA.cond rfl (fun hc1 => ?_) (fun hc1 => ?_)
  · cases hc1
  · apply WPA.skip
    apply WPA.seq
    apply WPA.seq
    refine WPA.weaken (T := [(sl 1, .av (.d (intsD [1, 0]))), (sl 2, .av (bv true)), (sl 4, .av (.d (intsD []))), (sl 5, .av (bv false)), (sl 7, .av (.d (intsD [0, 1]))), (sl 9, .av (.d (intsD [1])))]) ?_ (St.le_cons rfl (St.le_cons rfl (St.le_cons rfl (St.le_cons rfl (St.le_cons rfl (St.le_cons rfl (St.le_nil _)))))))
    have h11 : True := trivial
    · apply WPA.region2G 18 (T := [(sl 114, .av (bv false)), (sl 115, .av (.d D4097)), (sl 1, .av (.d (intsD [1, 0]))), (sl 2, .av (bv true)), (sl 4, .av (.d (intsD []))), (sl 5, .av (bv false)), (sl 7, .av (.d (intsD [0, 1]))), (sl 9, .av (.d (intsD [1])))])
      · apply Trace.cu (callArgs0 (.cons (.plain rfl) (.cons (.plain rfl) .nil))) (spec20 0 7) en20
        apply Trace.cu (callArgs0 (.cons (.plain rfl) .nil)) c21C4 en12
        apply Trace.pu [] (.cmp (.plain rfl) (.plain rfl) rfl)
        apply Trace.pu [] (.move (.plain rfl))
        apply Trace.og rfl
        apply Trace.cu (callArgs0 (.cons (.plain rfl) (.cons (.plain rfl) .nil))) (spec20 0 8) en20
        apply Trace.cg rfl (callArgs0 (.cons (.plain rfl) .nil)) (fun _ => c21C5) en12
        apply Trace.pg [] rfl (.cmp (.gd rfl (fun h => h)) (.plain rfl) rfl)
        apply Trace.pu [] (.pick (.plain rfl) (.plain rfl) (.gd rfl (by simp)))
        apply Trace.pu [] (.move (.plain rfl))
        apply Trace.og rfl
        apply Trace.buildRows (g := fun i => [Col.ints .i64 [0, 0]].map (Col.at · i)) so22 zo3 rfl (by decide) (by decide) (.cons (.plain rfl) rfl rfl (Nat.le_of_ble_eq_true rfl) (.cons (.plain rfl) rfl rfl (Nat.le_of_ble_eq_true rfl) (.nil _ _))) rfl (fun i hi => by rcases (by omega : i = 0 ∨ i = 1) with rfl | rfl <;> rfl)
        apply Trace.og rfl
        apply Trace.pu [] (.build zo40 pl40 (.cons (.plain rfl) rfl rfl (Nat.le_of_ble_eq_true rfl) (.nil _ _)) rfl)
        apply Trace.og rfl
        apply Trace.buildRows (g := fun k => ((G8).es.getD k default).ds) so23 zo40 rfl (by decide) (by decide) (.cons (.plain rfl) rfl rfl (Nat.le_of_ble_eq_true rfl) (.nil _ _)) rfl (fun i hi => by cases i with | zero => rfl | succ k => omega)
        apply Trace.og rfl
        apply Trace.pu [] (.build zo25 pl25 (.cons (.plain rfl) rfl rfl (Nat.le_of_ble_eq_true rfl) (.cons (.plain rfl) rfl rfl (Nat.le_of_ble_eq_true rfl) (.nil _ _))) rfl)
        apply Trace.cg rfl (callArgs0 (.cons (.plain rfl) .nil)) (fun _ => c21C6) en12
        apply Trace.pg [] rfl (.cmp (.gd rfl (fun h => h)) (.plain rfl) rfl)
        apply Trace.pu [] (.pick (.plain rfl) (.plain rfl) (.gd rfl (by simp)))
        apply Trace.pu [] (.move (.plain rfl))
        apply Trace.og rfl
        apply Trace.makeSlice 115 [] so22 by3 zo3 rfl (by decide) (.plain rfl) (.plain rfl) ⟨by omega, by omega⟩ (by omega) (by omega) rfl rfl
        exact .nil _
      · exact keepOK_of hk hn rfl
      · exact fun E => (Ghost.freezeAs (t := 115) (l := 115) (g := fun k => [Col.at (.ints .i64 (List.replicate 4097 0)) k]) rfl rfl (fun k hk => rfl)).trans (Ghost.weaken (St.le_cons rfl (St.le_cons rfl (St.le_cons rfl (St.le_cons rfl (St.le_cons rfl (St.le_cons rfl (St.le_cons rfl (St.le_cons rfl (St.le_nil _))))))))))
      · apply Trace.og rfl
        apply Trace.pu [] (.build zo25 pl25 (.cons (.plain rfl) rfl rfl (Nat.le_of_ble_eq_true rfl) (.nil _ _)) rfl)
        apply Trace.cg rfl (callArgs0 (.cons (.plain rfl) .nil)) (fun _ => c21C7) en12
        apply Trace.pg [] rfl (.cmp (.gd rfl (fun h => h)) (.plain rfl) rfl)
        apply Trace.pu [] (.pick (.plain rfl) (.plain rfl) (.gd rfl (by simp)))
        exact .nil _
      · exact keepOK_of hk hn rfl
      · exact Nat.le_of_ble_eq_true rfl
      refine WPA.cond rfl (fun hc2 => ?_) (fun hc2 => ?_)
      · cases hc2
      · apply WPA.skip
        apply WPA.seq
        apply WPA.region
        · apply Trace.pu [] (.move (.plain rfl))
          apply Trace.pu [] (.move (.plain rfl))
          apply Trace.pg [] rfl (.move (.plain rfl))
          apply Trace.pg [] rfl (.not (.gd rfl (fun h => h)))
          apply Trace.pu [] (.pick (.plain rfl) (.gd rfl (by simp)) (.plain rfl))
          apply Trace.pu [] (.move (.plain rfl))
          apply Trace.pg [] rfl (.move (.plain rfl))
          apply Trace.pg [] rfl (.len rfl Try.underlying22 (.gd rfl (fun h => h)) rfl)
          apply Trace.pg [] rfl (.cmp (.gd rfl (fun h => h)) (.plain rfl) rfl)
          apply Trace.pu [] (.pick (.plain rfl) (.gd rfl (by simp)) (.plain rfl))
          apply Trace.pu [] (.move (.plain rfl))
          apply Trace.pg [] rfl (.move (.plain rfl))
          apply Trace.pg [] rfl (.len rfl Try.underlying22 (.gd rfl (fun h => h)) rfl)
          apply Trace.pg [] rfl (.cmp (.gd rfl (fun h => h)) (.plain rfl) rfl)
          apply Trace.pu [] (.pick (.plain rfl) (.gd rfl (by simp)) (.plain rfl))
          apply Trace.pu [] (.move (.plain rfl))
          apply Trace.pg [] rfl (.move (.plain rfl))
          apply Trace.og rfl
          apply Trace.buildRows (g := fun i => [Col.ints .i64 [0, 1]].map (Col.at · i)) so22 zo3 rfl (by decide) (by decide) (.cons (.plain rfl) rfl rfl (Nat.le_of_ble_eq_true rfl) (.cons (.plain rfl) rfl rfl (Nat.le_of_ble_eq_true rfl) (.nil _ _))) rfl (fun i hi => by rcases (by omega : i = 0 ∨ i = 1) with rfl | rfl <;> rfl)
          apply Trace.cg rfl (callArgs0 (.cons (.gd rfl (fun h => h)) (.cons (.plain rfl) .nil))) (fun _ => sm21 (a := [0, 1]) (b := [0, 1]) (by decide) rfl) en16
          apply Trace.pu [] (.pick (.plain rfl) (.gd rfl (by simp)) (.plain rfl))
          apply Trace.pu [] (.move (.plain rfl))
          apply Trace.pg [] rfl (.move (.plain rfl))
          apply Trace.og rfl
          apply Trace.buildRows (g := fun i => [Col.ints .i64 [1]].map (Col.at · i)) so22 zo3 rfl (by decide) (by decide) (.cons (.plain rfl) rfl rfl (Nat.le_of_ble_eq_true rfl) (.nil _ _)) rfl (fun i hi => by cases i with | zero => rfl | succ k => omega)
          apply Trace.cg rfl (callArgs0 (.cons (.gd rfl (fun h => h)) (.cons (.plain rfl) .nil))) (fun _ => sm21 (a := [1]) (b := [1]) (by decide) rfl) en16
          apply Trace.pu [] (.pick (.plain rfl) (.gd rfl (by simp)) (.plain rfl))
          apply Trace.pu [] (.assign (.plain rfl))
          exact .nil _
        · exact keepOK_of hk hn rfl
        apply WPA.ret
        refine ⟨.inr rfl, ⟨_, (.cons (.tmp rfl) .nil), ?_⟩, by simp [St.get]⟩
        rfl

end Go.Proofs.Ytcnikeonaklkoaa

