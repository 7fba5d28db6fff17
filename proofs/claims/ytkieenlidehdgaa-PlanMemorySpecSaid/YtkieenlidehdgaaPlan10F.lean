/- made, formed; positions that are all later; the lesser and the greater ones. -/
import Derived.Test.YtkieenlidehdgaaPlan9F
namespace Go.Proofs.Ytkieenlidehdgaa
open Go
set_option linter.unusedVariables false
set_option linter.unusedSimpArgs false
set_option maxRecDepth 10000
set_option maxHeartbeats 1000000

theorem mk_run {g : Gr} : ∀ {k : Nat} {fl a : List Int}, g.mkP k fl = some a → ∃ fl', a = (g.net fl').run.at_ ∧ (g.net fl').run.node < 0
  | 0, _, _, h => by cases h
  | k + 1, fl, a, h => by
    have h : (if (g.net fl).run.node < 0 then some (g.net fl).run.at_ else g.mkP k (cancel fl (g.net fl).cyc)) = some a := h
    split at h
    · rename_i hq; injection h with h; exact ⟨fl, h.symm, hq⟩
    · exact mk_run h
structure Gr.Tiny (g : Gr) : Prop where
  n : g.lat.length ≤ 40
  m : g.es.length ≤ 100
theorem Gr.Tiny.small {g : Gr} (h : g.Tiny) : g.Small := ⟨by have := h.n; omega, by have := h.m; omega⟩
theorem tiny_of {g : Gr} (h : g.some = true) : g.Tiny := ⟨(Gr.some_small h).1, (Gr.some_small h).2⟩
theorem tiny_top {g : Gr} (h : g.OK) (ht : g.Tiny) (fl : List Int) (v : Nat) : 0 ≤ (g.net fl).run.A v ∧ (g.net fl).run.A v ≤ 10000000000 := by
  have h1 := lrun_top (net_ok h fl) v
  have h2 := net_len g fl
  have h3 : (((g.net fl).n + 1) * (g.net fl).as.length : Nat) ≤ 41 * 200 := Nat.mul_le_mul (by have := ht.n; show g.lat.length + 1 ≤ _; omega) (by have := ht.m; omega)
  generalize ((g.net fl).n + 1) * (g.net fl).as.length = q at h1 h3
  omega
theorem posB_of {g : Gr} {l : List Int} (hl : l.length = g.lat.length) (hf : Feas g (fn l)) (hb : ∀ v, v < g.lat.length → fn l v ≤ 1099511627776) : g.posB l = true := by
  unfold Gr.posB
  rw [decide_eq_true hl, all_getD.2 fun j hj => decide_eq_true ⟨hf.pos j (by omega), hb j (by omega)⟩, List.all_eq_true.2 fun i hi => decide_eq_true (hf.sl i (by simpa using hi))]
  rfl
theorem posB_iff {g : Gr} {l : List Int} (h : g.posB l = true) : l.length = g.lat.length ∧ Feas g (fn l) ∧ ∀ v, v < g.lat.length → fn l v ≤ 1099511627776 := by
  unfold Gr.posB at h
  simp only [Bool.and_eq_true, decide_eq_true_eq] at h
  obtain ⟨h1, h2, h3⟩ := h
  have h4 : ∀ v, v < g.lat.length → 0 ≤ fn l v ∧ fn l v ≤ 1099511627776 := fun v hv => by
    have := all_getD.1 h2 v (by omega)
    simpa [posOk] using this
  exact ⟨h1, ⟨fun v hv => (h4 v hv).1, fun i hi => by simpa using List.all_eq_true.1 h3 i (by simpa using hi)⟩, fun v hv => (h4 v hv).2⟩
theorem best_posB {g : Gr} (h : g.OK) (hs : g.short = false) (ht : g.Tiny) : g.posB g.best = true := by
  obtain ⟨k, hk, hb⟩ := best_mk h hs
  obtain ⟨fl, he, _⟩ := mk_run hk
  refine posB_of hb.len hb.feas fun v _ => ?_
  have := tiny_top h ht fl v
  rw [he]
  show (g.net fl).run.A v ≤ _
  omega
theorem low_posB {g : Gr} (h : g.OK) (hs : g.short = false) (ht : g.Tiny) : g.posB g.low = true := by
  have hb := low_spec h hs
  refine posB_of hb.len hb.feas fun v _ => ?_
  have := tiny_top h ht g.zeros v
  show (g.net g.zeros).run.A v ≤ _
  omega
theorem mem_pos {g : Gr} (hc : g.check = 0) {l : List Int} (h : g.posB l = true) : g.memory l = (g.planOf l, 0) := by unfold Gr.memory; rw [if_neg (by rw [hc]; decide), if_pos h]
theorem make_ok {g : Gr} (hc : g.check = 0) : g.makeP = (g.planOf g.best, 0) := by unfold Gr.makeP; rw [if_neg (by rw [hc]; decide)]
def Gr.inB (g : Gr) : Bool := g.es.all fun e => decide (0 ≤ e.f ∧ e.f < g.lat.length ∧ 0 ≤ e.t ∧ e.t < g.lat.length)
theorem inB_ok {g : Gr} (h : g.OK) : g.inB = true := List.all_eq_true.2 fun e he => by
  have := h.es e he
  exact decide_eq_true (by omega)
theorem delTo_len (g : Gr) (l : List Int) (i : Nat) : (g.delTo l i).length = i := by simp [Gr.delTo]
/-- All later by the same number. -/
def addTo (l : List Int) (by_ : Int) (i : Nat) : List Int := (List.range l.length).map fun k => l.getD k 0 + if k < i then by_ else 0
theorem addTo_length (l : List Int) (b : Int) (i : Nat) : (addTo l b i).length = l.length := by simp [addTo]
theorem addTo_at (l : List Int) (b : Int) (i : Nat) {k : Nat} (hk : k < l.length) : (addTo l b i).getD k 0 = l.getD k 0 + if k < i then b else 0 := by
  rw [getD_lt _ _ (by rw [addTo_length]; exact hk)]
  simp only [addTo, List.getElem_map, List.getElem_range]
theorem addTo_zero (l : List Int) (b : Int) : addTo l b 0 = l := ext_fn (addTo_length l b 0) fun k hk => by
  rw [addTo_length] at hk
  show (addTo l b 0).getD k 0 = l.getD k 0
  rw [addTo_at l b 0 hk, if_neg (by omega)]; omega
theorem addTo_succ {l : List Int} {b : Int} {i : Nat} (hi : i < l.length) : addTo l b (i + 1) = (addTo l b i).set i ((addTo l b i).getD i 0 + b) := ext_fn (by simp [addTo_length]) fun k hk => by
  rw [addTo_length] at hk
  show (addTo l b (i + 1)).getD k 0 = ((addTo l b i).set i ((addTo l b i).getD i 0 + b)).getD k 0
  rw [getD_set (by rw [addTo_length]; exact hi), addTo_at l b (i + 1) hk, addTo_at l b i hk, addTo_at l b i hi]
  by_cases e : i = k
  · subst e; simp
  · rw [if_neg e]
    by_cases h : k < i
    · rw [if_pos h, if_pos (by omega)]
    · rw [if_neg h, if_neg (by omega)]
theorem later_of {g : Gr} (hok : g.OK) {l : List Int} {b : Int} (hb : 0 ≤ b) (h : g.posB l = true) (hm : ∀ j, j < l.length → l.getD j 0 + b ≤ 1099511627776) : g.posB (addTo l b l.length) = true ∧ g.delTo (addTo l b l.length) g.es.length = g.delTo l g.es.length ∧ g.memTo (addTo l b l.length) g.es.length = g.memTo l g.es.length := by
  obtain ⟨h1, h2, h3⟩ := posB_iff h
  have hat : ∀ v, v < g.lat.length → fn (addTo l b l.length) v = fn l v + b := fun v hv => by
    show (addTo l b l.length).getD v 0 = l.getD v 0 + b
    rw [addTo_at l b l.length (by omega), if_pos (by omega)]
  have hsl : ∀ i, i < g.es.length → g.sl (fn (addTo l b l.length)) i = g.sl (fn l) i := fun i hi => by
    have he := Gr.edge_mem hok (e := g.ed i) (Gr.edge hok hi).1
    unfold Gr.sl
    rw [hat _ he.2.2.2.1, hat _ he.2.1]
    omega
  refine ⟨posB_of (by rw [addTo_length]; exact h1) ⟨fun v hv => by rw [hat v hv]; have := h2.pos v hv; omega, fun i hi => by rw [hsl i hi]; exact h2.sl i hi⟩ fun v hv => by rw [hat v hv]; exact hm v (by omega), ?_, ?_⟩
  · unfold Gr.delTo
    exact List.map_congr_left fun i hi => hsl i (by simpa using hi)
  · unfold Gr.memTo
    exact sm_eq fun i hi => by rw [hsl i hi]
/-- One by one, the lesser or the greater. -/
def pickTo (f : Int → Int → Int) (a b : List Int) (i : Nat) : List Int := (List.range a.length).map fun k => if k < i then f (a.getD k 0) (b.getD k 0) else 0
theorem pickTo_length (f : Int → Int → Int) (a b : List Int) (i : Nat) : (pickTo f a b i).length = a.length := by simp [pickTo]
theorem pickTo_at (f : Int → Int → Int) (a b : List Int) (i : Nat) {k : Nat} (hk : k < a.length) : (pickTo f a b i).getD k 0 = if k < i then f (a.getD k 0) (b.getD k 0) else 0 := by
  rw [getD_lt _ _ (by rw [pickTo_length]; exact hk)]
  simp only [pickTo, List.getElem_map, List.getElem_range]
theorem pickTo_zero (f : Int → Int → Int) (a b : List Int) : pickTo f a b 0 = List.replicate a.length 0 := ext_fn (by simp [pickTo]) fun k hk => by
  rw [pickTo_length] at hk
  show (pickTo f a b 0).getD k 0 = (List.replicate a.length 0).getD k 0
  rw [pickTo_at f a b 0 hk, if_neg (by omega), getD_lt _ _ (by simpa using hk)]; simp
theorem pickTo_succ {f : Int → Int → Int} {a b : List Int} {i : Nat} (hi : i < a.length) : pickTo f a b (i + 1) = (pickTo f a b i).set i (f (a.getD i 0) (b.getD i 0)) := ext_fn (by simp [pickTo_length]) fun k hk => by
  rw [pickTo_length] at hk
  show (pickTo f a b (i + 1)).getD k 0 = ((pickTo f a b i).set i (f (a.getD i 0) (b.getD i 0))).getD k 0
  rw [getD_set (by rw [pickTo_length]; exact hi), pickTo_at f a b (i + 1) hk, pickTo_at f a b i hk]
  by_cases e : i = k
  · subst e; simp
  · rw [if_neg e]
    by_cases h : k < i
    · rw [if_pos h, if_pos (by omega)]
    · rw [if_neg h, if_neg (by omega)]
theorem lattice_of {g : Gr} (hok : g.OK) {a b : List Int} (ha : g.posB a = true) (hb : g.posB b = true) : g.posB (pickTo min a b a.length) = true ∧ g.posB (pickTo max a b a.length) = true ∧ g.memTo (pickTo min a b a.length) g.es.length + g.memTo (pickTo max a b a.length) g.es.length = g.memTo a g.es.length + g.memTo b g.es.length := by
  obtain ⟨a1, a2, a3⟩ := posB_iff ha
  obtain ⟨b1, b2, b3⟩ := posB_iff hb
  have hlo : ∀ v, v < g.lat.length → fn (pickTo min a b a.length) v = min (fn a v) (fn b v) := fun v hv => by
    show (pickTo min a b a.length).getD v 0 = min (a.getD v 0) (b.getD v 0)
    rw [pickTo_at _ _ _ _ (by omega), if_pos (by omega)]
  have hhi : ∀ v, v < g.lat.length → fn (pickTo max a b a.length) v = max (fn a v) (fn b v) := fun v hv => by
    show (pickTo max a b a.length).getD v 0 = max (a.getD v 0) (b.getD v 0)
    rw [pickTo_at _ _ _ _ (by omega), if_pos (by omega)]
  have hsl : ∀ i, i < g.es.length → 0 ≤ g.sl (fn (pickTo min a b a.length)) i ∧ 0 ≤ g.sl (fn (pickTo max a b a.length)) i ∧ g.sl (fn (pickTo min a b a.length)) i + g.sl (fn (pickTo max a b a.length)) i = g.sl (fn a) i + g.sl (fn b) i := fun i hi => by
    have he := Gr.edge_mem hok (e := g.ed i) (Gr.edge hok hi).1
    have h1 := a2.sl i hi
    have h2 := b2.sl i hi
    unfold Gr.sl at *
    rw [hlo _ he.2.2.2.1, hlo _ he.2.1, hhi _ he.2.2.2.1, hhi _ he.2.1]
    omega
  refine ⟨posB_of (by rw [pickTo_length]; exact a1) ⟨fun v hv => by rw [hlo v hv]; have := a2.pos v hv; have := b2.pos v hv; omega, fun i hi => (hsl i hi).1⟩ fun v hv => by rw [hlo v hv]; have := a3 v hv; omega,
    posB_of (by rw [pickTo_length]; exact a1) ⟨fun v hv => by rw [hhi v hv]; have := a2.pos v hv; have := b2.pos v hv; omega, fun i hi => (hsl i hi).2.1⟩ fun v hv => by rw [hhi v hv]; have := a3 v hv; have := b3 v hv; omega, ?_⟩
  unfold Gr.memTo
  rw [← sm_add, ← sm_add]
  refine sm_eq fun i hi => ?_
  rw [← Int.add_mul, ← Int.add_mul, (hsl i hi).2.2]
theorem memory_err {g : Gr} {l : List Int} (h : (g.memory l).2 ≠ 0) : (g.memory l).1 = Pl.none := by
  unfold Gr.memory at *
  split
  · rfl
  · rename_i h1; rw [if_neg h1] at h
    split
    · rename_i h2; rw [if_pos h2] at h; exact absurd rfl h
    · rfl
theorem memory_ok {g : Gr} {l : List Int} (h : (g.memory l).2 = 0) : g.check = 0 ∧ g.posB l = true ∧ g.memory l = (g.planOf l, 0) := by
  unfold Gr.memory at *
  split at h
  · rename_i h1; exact absurd h h1
  · rename_i h1
    split at h
    · rename_i h2; rw [if_neg h1, if_pos h2]; exact ⟨Classical.not_not.1 h1, h2, rfl⟩
    · cases h
theorem tiny_mem {g : Gr} (hok : g.OK) (ht : g.Tiny) {l : List Int} (h : AtOK g l) : -28147504381952000 ≤ g.memTo l g.es.length ∧ g.memTo l g.es.length ≤ 28147504381952000 := by
  have key : ∀ i, i ≤ g.es.length → -((i : Int) * 281475043819520) ≤ g.memTo l i ∧ g.memTo l i ≤ (i : Int) * 281475043819520 := by
    intro i
    induction i with
    | zero => intro _; exact ⟨by show _ ≤ (0 : Int); omega, by show (0 : Int) ≤ _; omega⟩
    | succ i ih =>
      intro hi
      have a := ih (by omega)
      have b := sl_bd hok h (i := i) (by omega)
      rw [memTo_succ]
      omega
  have := key _ (Nat.le_refl _)
  have := ht.m
  omega
/-- soundpost/soundpostlaw23.made -/
theorem spec22 {g : Gr} (hz : g.Sz) (hC : g.check = 0) (ht : g.Tiny) : FnSpec Try.prog 22 [g.av] [] (.tup ([(g.planOf g.best).d, .v (.bool true)].map .d)) [] [] := by
  have hok := g.ok_of (check_formed hC)
  have hsh := check_short hC
  have hpos := best_posB hok hsh ht
  obtain ⟨_, _, hB⟩ := best_mk hok hsh
  have hbl := hB.len
  have hn1 := hz.n
  have hn2 := hz.m
  refine fnSpec_of (rs := [.cell 2 32, .tmp 3]) Try.func22 rfl rfl (Nat.le_of_ble_eq_true rfl) (by simp [St.get]) fun E hk hn => ?_
  apply WPA.seq
  apply WPA.region
  · first | apply Trace.boxD 1 [] (.plain rfl) rfl rfl | apply Trace.box 1 [] (.plain rfl) rfl rfl rfl
    apply Trace.alloc 2 [] (.data _) zo32 (cellsAs_data _) rfl
    apply Trace.pu [] (.assign (.plain rfl))
    exact .nil _
  · exact keepOK_of hk hn rfl
  apply WPA.seq
  apply WPA.region
  · first | apply Trace.pu [_] (.loadAllD ty25 (.plain rfl) rfl (by simp)) | apply Trace.pu [_] (.loadLocD ty25 (.plain rfl) rfl (fun _ => by simp)) | apply Trace.pu [_] (.loadLoc ty25 (.plain rfl) rfl (fun _ => Nat.le_of_ble_eq_true rfl)) | apply Trace.pu [] (.loadRp ty25 (.plain rfl) (fun _ => by decide)) | apply Trace.pu [] (.loadRp ty25 (.plain rfl) (fun _ => Nat.le_of_ble_eq_true rfl)) | apply Trace.pu [_] (.loadCol ty25 (.plain rfl) rfl rfl (fun _ => by decide) (fun _ => by omega)) | apply Trace.pu [_] (.loadArr ty25 (.plain rfl) rfl)
    apply Trace.ct (callArgs0 (.cons (.plain rfl) .nil)) (makeN hz (fun _ => ht.small) (make_ok hC)) en19
    apply Trace.pu [] (.move (.plain rfl))
    apply Trace.pu [] (.extract (.plain rfl) rfl)
    apply Trace.pu [] (.extract (.plain rfl) rfl)
    first | apply Trace.storeD ty32 (.plain rfl) (.plain rfl) rfl rfl (by simp) (by simp [AV.oneB, single, intsD, rowsD]) (by simp) (spliceL_all (by simp)) | apply Trace.storeD ty32 (.plain rfl) (.plain rfl) rfl rfl (by simp) (by simp [AV.oneB, single, intsD, rowsD]) (by simp) rfl | apply Trace.storeDA ty32 (.plain rfl) (.plain rfl) rfl rfl (by simp) (by simp [AV.oneB, single]) (by simp) rfl | apply Trace.storeLoc ty32 (.plain rfl) (.plain rfl) rfl rfl (by simp) (by simp [AV.oneB, single]) (by simp) rfl | apply Trace.storeRow ty32 (.plain rfl) (.plain rfl) rfl rfl rfl rfl (by decide) (by simp [AV.oneB, single]) rfl (by omega)
    apply Trace.pu [] (.assign (.plain rfl))
    exact .nil _
  · exact keepOK_of hk hn rfl
  apply WPA.seq
  apply WPA.region
  · first | apply Trace.pu [_] (.loadAllD ty25 (.plain rfl) rfl (by simp)) | apply Trace.pu [_] (.loadLocD ty25 (.plain rfl) rfl (fun _ => by simp)) | apply Trace.pu [_] (.loadLoc ty25 (.plain rfl) rfl (fun _ => Nat.le_of_ble_eq_true rfl)) | apply Trace.pu [] (.loadRp ty25 (.plain rfl) (fun _ => by decide)) | apply Trace.pu [] (.loadRp ty25 (.plain rfl) (fun _ => Nat.le_of_ble_eq_true rfl)) | apply Trace.pu [_] (.loadCol ty25 (.plain rfl) rfl rfl (fun _ => by decide) (fun _ => by omega)) | apply Trace.pu [_] (.loadArr ty25 (.plain rfl) rfl)
    apply Trace.pu [] (.fieldAddr fl32_0 (.plain rfl) rfl)
    first | apply Trace.pu [_] (.loadLoc1D ty22 (.plain rfl) rfl rfl) | apply Trace.pu [_] (.loadLoc1 ty22 (.plain rfl) rfl rfl) | apply Trace.pu [] (.loadRp1 ty22 (.plain rfl) rfl) | apply Trace.pu [_] (.loadCol1 ty22 (.plain rfl) rfl rfl rfl (fun _ => by omega))
    apply Trace.ct (callArgs0 (.cons (.plain rfl) (.cons (.plain rfl) .nil))) (memN hz (by have := ht.n; omega) (mem_pos hC hpos)) en14
    apply Trace.pu [] (.move (.plain rfl))
    apply Trace.pu [] (.extract (.plain rfl) rfl)
    apply Trace.pu [] (.extract (.plain rfl) rfl)
    apply Trace.alloc 5 [] (.data _) zo32 (cellsAs_data _) rfl
    first | apply Trace.storeD ty32 (.plain rfl) (.plain rfl) rfl rfl (by simp) (by simp [AV.oneB, single, intsD, rowsD]) (by simp) (spliceL_all (by simp)) | apply Trace.storeD ty32 (.plain rfl) (.plain rfl) rfl rfl (by simp) (by simp [AV.oneB, single, intsD, rowsD]) (by simp) rfl | apply Trace.storeDA ty32 (.plain rfl) (.plain rfl) rfl rfl (by simp) (by simp [AV.oneB, single]) (by simp) rfl | apply Trace.storeLoc ty32 (.plain rfl) (.plain rfl) rfl rfl (by simp) (by simp [AV.oneB, single]) (by simp) rfl | apply Trace.storeRow ty32 (.plain rfl) (.plain rfl) rfl rfl rfl rfl (by decide) (by simp [AV.oneB, single]) rfl (by omega)
    apply Trace.pu [] (.assign (.plain rfl))
    exact .nil _
  · exact keepOK_of hk hn rfl
  apply WPA.seq
  apply WPA.draw mixed
  · first | apply Trace.pu [_] (.loadAllD ty32 (.plain rfl) rfl (by simp)) | apply Trace.pu [_] (.loadLocD ty32 (.plain rfl) rfl (fun _ => by simp)) | apply Trace.pu [_] (.loadLoc ty32 (.plain rfl) rfl (fun _ => Nat.le_of_ble_eq_true rfl)) | apply Trace.pu [] (.loadRp ty32 (.plain rfl) (fun _ => by decide)) | apply Trace.pu [] (.loadRp ty32 (.plain rfl) (fun _ => Nat.le_of_ble_eq_true rfl)) | apply Trace.pu [_] (.loadCol ty32 (.plain rfl) rfl rfl (fun _ => by decide) (fun _ => by omega)) | apply Trace.pu [_] (.loadArr ty32 (.plain rfl) rfl)
    apply Trace.pu [] (.move (.plain rfl))
    apply Trace.pu [] (.cmp (.plain rfl) (.plain rfl) rfl)
    apply Trace.pu [] (.move (.plain rfl))
    apply Trace.pg [] rfl (.move (.plain rfl))
    apply Trace.pg [] rfl (.cmp (.gd rfl (fun h => h)) (.plain rfl) rfl)
    apply Trace.pu [] (.pick (.plain rfl) (.gd rfl (by simp)) (.plain rfl))
    apply Trace.pu [] (.move (.plain rfl))
    first | apply Trace.pg [_] rfl (.loadAllD ty32 (.plain rfl) rfl (by simp)) | apply Trace.pg [_] rfl (.loadLocD ty32 (.plain rfl) rfl (fun _ => by simp)) | apply Trace.pg [_] rfl (.loadLoc ty32 (.plain rfl) rfl (fun _ => Nat.le_of_ble_eq_true rfl)) | apply Trace.pg [] rfl (.loadRp ty32 (.plain rfl) (fun _ => by decide)) | apply Trace.pg [] rfl (.loadRp ty32 (.plain rfl) (fun _ => Nat.le_of_ble_eq_true rfl)) | apply Trace.pg [_] rfl (.loadCol ty32 (.plain rfl) rfl rfl (fun _ => by decide) (fun _ => by omega)) | apply Trace.pg [_] rfl (.loadArr ty32 (.plain rfl) rfl)
    first | apply Trace.pg [_] rfl (.loadAllD ty32 (.plain rfl) rfl (by simp)) | apply Trace.pg [_] rfl (.loadLocD ty32 (.plain rfl) rfl (fun _ => by simp)) | apply Trace.pg [_] rfl (.loadLoc ty32 (.plain rfl) rfl (fun _ => Nat.le_of_ble_eq_true rfl)) | apply Trace.pg [] rfl (.loadRp ty32 (.plain rfl) (fun _ => by decide)) | apply Trace.pg [] rfl (.loadRp ty32 (.plain rfl) (fun _ => Nat.le_of_ble_eq_true rfl)) | apply Trace.pg [_] rfl (.loadCol ty32 (.plain rfl) rfl rfl (fun _ => by decide) (fun _ => by omega)) | apply Trace.pg [_] rfl (.loadArr ty32 (.plain rfl) rfl)
    apply Trace.cg rfl (callArgs0 (.cons (.gd rfl (fun h => h)) (.cons (.gd rfl (fun h => h)) .nil))) (fun _ => saT (p := g.planOf g.best) (q := g.planOf g.best) (by show g.best.length ≤ 1000; have := ht.n; omega) (by show (g.delTo g.best g.es.length).length ≤ 1000; rw [delTo_len]; have := ht.m; omega) rfl) en17
    apply Trace.pu [] (.pick (.plain rfl) (.gd rfl (by simp)) (.plain rfl))
    apply Trace.pu [] (.move (.plain rfl))
    apply Trace.pg [] rfl (.fieldAddr fl32_0 (.plain rfl) rfl)
    first | apply Trace.pg [_] rfl (.loadLoc1D ty22 (.gd rfl (fun h => h)) rfl rfl) | apply Trace.pg [_] rfl (.loadLoc1 ty22 (.gd rfl (fun h => h)) rfl rfl) | apply Trace.pg [] rfl (.loadRp1 ty22 (.gd rfl (fun h => h)) rfl) | apply Trace.pg [_] rfl (.loadCol1 ty22 (.gd rfl (fun h => h)) rfl rfl rfl (fun _ => by omega))
    apply Trace.pg [] rfl (.len rfl Try.underlying22 (.gd rfl (fun h => h)) rfl)
    apply Trace.pg [] rfl (.fieldAddr fl25_0 (.plain rfl) rfl)
    first | apply Trace.pg [_] rfl (.loadLoc1D ty22 (.gd rfl (fun h => h)) rfl rfl) | apply Trace.pg [_] rfl (.loadLoc1 ty22 (.gd rfl (fun h => h)) rfl rfl) | apply Trace.pg [] rfl (.loadRp1 ty22 (.gd rfl (fun h => h)) rfl) | apply Trace.pg [_] rfl (.loadCol1 ty22 (.gd rfl (fun h => h)) rfl rfl rfl (fun _ => by omega))
    apply Trace.pg [] rfl (.len rfl Try.underlying22 (.gd rfl (fun h => h)) rfl)
    apply Trace.pg [] rfl ((Pure.cmp (.gd rfl (fun h => h)) (.gd rfl (fun h => h)) rfl).to (y := bv true) (congrArg bv (decide_eq_true (by show ((g.best.length : Nat) : Int) = _; omega))))
    apply Trace.pu [] (.pick (.plain rfl) (.gd rfl (by simp)) (.plain rfl))
    first | apply Trace.storeD ty32 (.plain rfl) (.plain rfl) rfl rfl (by simp) (by simp [AV.oneB, single, intsD, rowsD]) (by simp) (spliceL_all (by simp)) | apply Trace.storeD ty32 (.plain rfl) (.plain rfl) rfl rfl (by simp) (by simp [AV.oneB, single, intsD, rowsD]) (by simp) rfl | apply Trace.storeDA ty32 (.plain rfl) (.plain rfl) rfl rfl (by simp) (by simp [AV.oneB, single]) (by simp) rfl | apply Trace.storeLoc ty32 (.plain rfl) (.plain rfl) rfl rfl (by simp) (by simp [AV.oneB, single]) (by simp) rfl | apply Trace.storeRow ty32 (.plain rfl) (.plain rfl) rfl rfl rfl rfl (by decide) (by simp [AV.oneB, single]) rfl (by omega)
    apply Trace.pu [] (.assign (.plain rfl))
    exact .nil _
  · rfl
  · exact keepOK_of hk hn rfl
  apply WPA.ret
  refine ⟨.inr rfl, ⟨_, (.cons (.cellD rfl rfl ty32 rfl) (.cons (.tmp rfl) .nil)), ?_⟩, by simp [St.get]⟩
  rfl

/-- soundpost/soundpostlaw23.formed -/
theorem spec23 (g : Gr) (hz : g.Sz) : FnSpec Try.prog 23 [g.av] [] (bv g.inB) [] [] := by
  have hn1 := hz.n
  have hn2 := hz.m
  refine fnSpec_of (rs := [.tmp 2]) Try.func23 rfl rfl (Nat.le_of_ble_eq_true rfl) (by simp [St.get]) fun E hk hn => ?_
  apply WPA.seq
  apply WPA.region
  · first | apply Trace.boxD 1 [] (.plain rfl) rfl rfl | apply Trace.box 1 [] (.plain rfl) rfl rfl rfl
    apply Trace.pu [] (.assign (.plain rfl))
    exact .nil _
  · exact keepOK_of hk hn rfl
  apply WPA.seq
  apply WPA.seq
  apply WPA.region
  · apply Trace.pu [] (.fieldAddr fl25_1 (.plain rfl) rfl)
    first | apply Trace.pu [_] (.loadLoc1D ty23 (.plain rfl) rfl rfl) | apply Trace.pu [_] (.loadLoc1 ty23 (.plain rfl) rfl rfl) | apply Trace.pu [] (.loadRp1 ty23 (.plain rfl) rfl) | apply Trace.pu [_] (.loadCol1 ty23 (.plain rfl) rfl rfl rfl (fun _ => by omega))
    apply Trace.pu [] (.len rfl Try.underlying23 (.plain rfl) rfl)
    apply Trace.pu [] (.move (.plain rfl))
    exact .nil _
  · exact keepOK_of hk hn rfl
  apply WPA.block
  refine WPA.loop (σ := Nat) (fun i => [(sl 1, .av (.loc 1 0)), (sl 6, .av (.d (edgesD g.es))), (sl 7, .av (iv .i64 (g.es.length))), (sl 8, .av (iv .i64 (i))), (bk 1, .blk (.data g.ds))]) (fun i => i ≤ g.es.length ∧ ∀ j, j < i → decide (0 ≤ (g.ed j).f ∧ (g.ed j).f < g.lat.length ∧ 0 ≤ (g.ed j).t ∧ (g.ed j).t < g.lat.length) = true) (fun i => g.es.length - i) 0
    (St.le_cons rfl (St.le_cons rfl (St.le_cons rfl (St.le_cons rfl (St.le_cons rfl (St.le_nil _)))))) ⟨Nat.zero_le _, fun j h => by omega⟩ fun i hi => ?_
  apply WPA.seq
  apply WPA.region
  · apply Trace.pu [] (.cmp (.plain rfl) (.plain rfl) rfl)
    exact .nil _
  · exact keepOK_of hk hn rfl
  apply WPA.seq
  refine WPA.cond rfl (fun hc1 => ?_) (fun hc1 => ?_)
  · have hlt : i < g.es.length := by simpa using hc1
    obtain ⟨e, he⟩ : ∃ e, g.es.getD i default = e := ⟨_, rfl⟩
    have hee : g.ed i = e := he
    apply WPA.skip
    apply WPA.seq
    apply WPA.block
    apply WPA.seq
    apply WPA.region
    · apply Trace.pu [] ((Pure.indexRows el23 (.plain rfl) (.plain rfl) (fun _ => ⟨by omega, by omega⟩)).to (y := .rp e.ds) (by show AV.rp (g.es.getD i default).ds = _; rw [he]))
      first | apply Trace.pu [_] (.loadAllD ty44 (.plain rfl) rfl (by simp)) | apply Trace.pu [_] (.loadLocD ty44 (.plain rfl) rfl (fun _ => by simp)) | apply Trace.pu [_] (.loadLoc ty44 (.plain rfl) rfl (fun _ => Nat.le_of_ble_eq_true rfl)) | apply Trace.pu [] (.loadRp ty44 (.plain rfl) (fun _ => by decide)) | apply Trace.pu [] (.loadRp ty44 (.plain rfl) (fun _ => Nat.le_of_ble_eq_true rfl)) | apply Trace.pu [_] (.loadCol ty44 (.plain rfl) rfl rfl (fun _ => by decide) (fun _ => by omega)) | apply Trace.pu [_] (.loadArr ty44 (.plain rfl) rfl)
      apply Trace.alloc 4 [] (.data _) zo44 (cellsAs_data _) rfl
      first | apply Trace.storeD ty44 (.plain rfl) (.plain rfl) rfl rfl (by simp) (by simp [AV.oneB, single]) (by simp) (spliceL_all (by simp)) | apply Trace.storeD ty44 (.plain rfl) (.plain rfl) rfl rfl (by simp) (by simp [AV.oneB, single]) (by simp) rfl | apply Trace.storeDA ty44 (.plain rfl) (.plain rfl) rfl rfl (by simp) (by simp [AV.oneB, single]) (by simp) rfl | apply Trace.storeLoc ty44 (.plain rfl) (.plain rfl) rfl rfl (by simp) (by simp [AV.oneB, single]) (by simp) rfl | apply Trace.storeRow ty44 (.plain rfl) (.plain rfl) rfl rfl rfl rfl (by decide) (by simp [AV.oneB, single]) rfl (by omega)
      exact .nil _
    · exact keepOK_of hk hn rfl
    apply WPA.seq
    apply WPA.region
    · apply Trace.pu [] (.fieldAddr fl44_0 (.plain rfl) rfl)
      first | apply Trace.pu [_] (.loadLoc1D ty3 (.plain rfl) rfl rfl) | apply Trace.pu [_] (.loadLoc1 ty3 (.plain rfl) rfl rfl) | apply Trace.pu [] (.loadRp1 ty3 (.plain rfl) rfl) | apply Trace.pu [_] (.loadCol1 ty3 (.plain rfl) rfl rfl rfl (fun _ => by omega))
      apply Trace.pu [] (.cmp (.plain rfl) (.plain rfl) rfl)
      apply Trace.pu [] (.move (.plain rfl))
      apply Trace.pg [] rfl (.fieldAddr fl44_0 (.plain rfl) rfl)
      first | apply Trace.pg [_] rfl (.loadLoc1D ty3 (.gd rfl (fun h => h)) rfl rfl) | apply Trace.pg [_] rfl (.loadLoc1 ty3 (.gd rfl (fun h => h)) rfl rfl) | apply Trace.pg [] rfl (.loadRp1 ty3 (.gd rfl (fun h => h)) rfl) | apply Trace.pg [_] rfl (.loadCol1 ty3 (.gd rfl (fun h => h)) rfl rfl rfl (fun _ => by omega))
      apply Trace.pg [] rfl (.fieldAddr fl25_0 (.plain rfl) rfl)
      first | apply Trace.pg [_] rfl (.loadLoc1D ty22 (.gd rfl (fun h => h)) rfl rfl) | apply Trace.pg [_] rfl (.loadLoc1 ty22 (.gd rfl (fun h => h)) rfl rfl) | apply Trace.pg [] rfl (.loadRp1 ty22 (.gd rfl (fun h => h)) rfl) | apply Trace.pg [_] rfl (.loadCol1 ty22 (.gd rfl (fun h => h)) rfl rfl rfl (fun _ => by omega))
      apply Trace.pg [] rfl (.len rfl Try.underlying22 (.gd rfl (fun h => h)) rfl)
      apply Trace.pg [] rfl (.cmp (.gd rfl (fun h => h)) (.gd rfl (fun h => h)) rfl)
      apply Trace.pu [] (.pick (.plain rfl) (.plain rfl) (.gd rfl (by simp)))
      apply Trace.pu [] (.move (.plain rfl))
      apply Trace.pg [] rfl (.fieldAddr fl44_1 (.plain rfl) rfl)
      first | apply Trace.pg [_] rfl (.loadLoc1D ty3 (.gd rfl (fun h => h)) rfl rfl) | apply Trace.pg [_] rfl (.loadLoc1 ty3 (.gd rfl (fun h => h)) rfl rfl) | apply Trace.pg [] rfl (.loadRp1 ty3 (.gd rfl (fun h => h)) rfl) | apply Trace.pg [_] rfl (.loadCol1 ty3 (.gd rfl (fun h => h)) rfl rfl rfl (fun _ => by omega))
      apply Trace.pg [] rfl (.cmp (.gd rfl (fun h => h)) (.plain rfl) rfl)
      apply Trace.pu [] (.pick (.plain rfl) (.plain rfl) (.gd rfl (by simp)))
      apply Trace.pu [] (.move (.plain rfl))
      apply Trace.pg [] rfl (.fieldAddr fl44_1 (.plain rfl) rfl)
      first | apply Trace.pg [_] rfl (.loadLoc1D ty3 (.gd rfl (fun h => h)) rfl rfl) | apply Trace.pg [_] rfl (.loadLoc1 ty3 (.gd rfl (fun h => h)) rfl rfl) | apply Trace.pg [] rfl (.loadRp1 ty3 (.gd rfl (fun h => h)) rfl) | apply Trace.pg [_] rfl (.loadCol1 ty3 (.gd rfl (fun h => h)) rfl rfl rfl (fun _ => by omega))
      apply Trace.pg [] rfl (.fieldAddr fl25_0 (.plain rfl) rfl)
      first | apply Trace.pg [_] rfl (.loadLoc1D ty22 (.gd rfl (fun h => h)) rfl rfl) | apply Trace.pg [_] rfl (.loadLoc1 ty22 (.gd rfl (fun h => h)) rfl rfl) | apply Trace.pg [] rfl (.loadRp1 ty22 (.gd rfl (fun h => h)) rfl) | apply Trace.pg [_] rfl (.loadCol1 ty22 (.gd rfl (fun h => h)) rfl rfl rfl (fun _ => by omega))
      apply Trace.pg [] rfl (.len rfl Try.underlying22 (.gd rfl (fun h => h)) rfl)
      apply Trace.pg [] rfl (.cmp (.gd rfl (fun h => h)) (.gd rfl (fun h => h)) rfl)
      apply Trace.pu [] (.pick (.plain rfl) (.plain rfl) (.gd rfl (by simp)))
      exact .nil _
    · exact keepOK_of hk hn rfl
    refine WPA.cond rfl (fun hc2 => ?_) (fun hc2 => ?_)
    · apply WPA.seq
      have hx : ¬ (0 ≤ e.f ∧ e.f < g.lat.length ∧ 0 ≤ e.t ∧ e.t < g.lat.length) := by
        have h9 : (bif (bif (bif decide (e.f < 0) then true else decide ((g.lat.length : Int) ≤ e.f)) then true else decide (e.t < 0)) then true else decide ((g.lat.length : Int) ≤ e.t)) = true := hc2
        rw [bif_or, bif_or, bif_or] at h9
        simp only [Bool.or_eq_true, decide_eq_true_eq] at h9
        omega
      have e9 : g.inB = false := by
        unfold Gr.inB
        rw [List.all_eq_false]
        exact ⟨e, by rw [← he, getD_lt _ _ hlt]; exact List.getElem_mem hlt, by simpa using hx⟩
      apply WPA.region
      · apply Trace.pu [] (.assign (.plain rfl))
        exact .nil _
      · exact keepOK_of hk hn rfl
      apply WPA.ret
      refine ⟨.inr rfl, ⟨_, (.cons (.tmp rfl) .nil), ?_⟩, by simp [St.get]⟩
      rw [e9]; rfl
    · have hx : decide (0 ≤ (g.ed i).f ∧ (g.ed i).f < g.lat.length ∧ 0 ≤ (g.ed i).t ∧ (g.ed i).t < g.lat.length) = true := by
        have h9 : (bif (bif (bif decide (e.f < 0) then true else decide ((g.lat.length : Int) ≤ e.f)) then true else decide (e.t < 0)) then true else decide ((g.lat.length : Int) ≤ e.t)) = false := hc2
        rw [bif_or, bif_or, bif_or] at h9
        simp only [Bool.or_eq_false_iff, decide_eq_false_iff_not] at h9
        rw [hee]
        exact decide_eq_true (by omega)
      apply WPA.skip
      apply WPA.region
      · apply Trace.pu [] (.arith (.plain rfl) (.plain rfl) rfl (fun _ => bd64 (by omega)))
        apply Trace.pu [] (.move (.plain rfl))
        exact .nil _
      · exact keepOK_of hk hn rfl
      exact ⟨i + 1, ⟨by omega, fun j h => by
        by_cases hj : j = i
        · rw [hj]; exact hx
        · exact hi.2 j (by omega)⟩, by omega, St.le_cons rfl (St.le_cons rfl (St.le_cons rfl (St.le_cons (slI (by omega)) (St.le_cons rfl (St.le_nil _)))))⟩
  · apply WPA.exit
    apply WPA.seq
    apply WPA.region
    · apply Trace.pu [] (.assign (.plain rfl))
      exact .nil _
    · exact keepOK_of hk hn rfl
    apply WPA.ret
    refine ⟨.inr rfl, ⟨_, (.cons (.tmp rfl) .nil), ?_⟩, by simp [St.get]⟩
    have e9 : g.inB = true := by
      unfold Gr.inB
      rw [List.all_eq_true]
      intro e he
      obtain ⟨j, hj, rfl⟩ := List.mem_iff_getElem.1 he
      have := hi.2 j (by
        have : ¬ ((i : Int) < g.es.length) := by simpa using hc1
        omega)
      rw [show g.ed j = g.es[j] from getD_lt _ _ hj] at this
      exact this
    rw [e9]; rfl

/-- soundpost/soundpostlaw23.PlanLater -/
theorem spec7 (g : Gr) (hz : g.Sz) (at_ : List Int) (ha : at_.length ≤ 4611686018427387904) (by_ : Int) (hb0 : 0 ≤ by_) (hb1 : by_ ≤ 65535) : FnSpec Try.prog 7 [g.av, .d (intsD at_), iv .u16 by_] [] (bv true) [] [] := by
  have hn1 := hz.n
  have hn2 := hz.m
  refine fnSpec_of (rs := [.tmp 6]) Try.func7 rfl rfl (Nat.le_of_ble_eq_true rfl) (by simp [St.get]) fun E hk hn => ?_
  apply WPA.seq
  apply WPA.region
  · first | apply Trace.boxD 3 [] (.plain rfl) rfl rfl | apply Trace.box 3 [] (.plain rfl) rfl rfl rfl
    apply Trace.pu [] (.assign (.plain rfl))
    exact .nil _
  · exact keepOK_of hk hn rfl
  apply WPA.seq
  apply WPA.seq
  apply WPA.region
  · apply Trace.cu (callArgs0 .nil) spec10 en10
    apply Trace.pu [] (.not (.plain rfl))
    exact .nil _
  · exact keepOK_of hk hn rfl
  refine WPA.cond rfl (fun hc1 => ?_) (fun hc1 => ?_)
  · cases hc1
  · apply WPA.skip
    apply WPA.seq
    apply WPA.seq
    apply WPA.region
    · first | apply Trace.pu [_] (.loadAllD ty25 (.plain rfl) rfl (by simp)) | apply Trace.pu [_] (.loadLocD ty25 (.plain rfl) rfl (fun _ => by simp)) | apply Trace.pu [_] (.loadLoc ty25 (.plain rfl) rfl (fun _ => Nat.le_of_ble_eq_true rfl)) | apply Trace.pu [] (.loadRp ty25 (.plain rfl) (fun _ => by decide)) | apply Trace.pu [] (.loadRp ty25 (.plain rfl) (fun _ => Nat.le_of_ble_eq_true rfl)) | apply Trace.pu [_] (.loadCol ty25 (.plain rfl) rfl rfl (fun _ => by decide) (fun _ => by omega)) | apply Trace.pu [_] (.loadArr ty25 (.plain rfl) rfl)
      apply Trace.cu (callArgs0 (.cons (.plain rfl) .nil)) (spec11 g hz) en11
      apply Trace.pu [] (.not (.plain rfl))
      apply Trace.pu [] (.move (.plain rfl))
      apply Trace.pg [] rfl (.move (.plain rfl))
      apply Trace.pg [] rfl (.len rfl Try.underlying22 (.gd rfl (fun h => h)) rfl)
      apply Trace.pg [] rfl (.cmp (.gd rfl (fun h => h)) (.plain rfl) rfl)
      apply Trace.pu [] (.pick (.plain rfl) (.plain rfl) (.gd rfl (by simp)))
      exact .nil _
    · exact keepOK_of hk hn rfl
    refine WPA.cond rfl (fun hc2 => ?_) (fun hc2 => ?_)
    · apply WPA.seq
      apply WPA.region
      · apply Trace.pu [] (.assign (.plain rfl))
        exact .nil _
      · exact keepOK_of hk hn rfl
      apply WPA.ret
      refine ⟨.inr rfl, ⟨_, (.cons (.tmp rfl) .nil), ?_⟩, by simp [St.get]⟩
      rfl
    · obtain ⟨hsome, hlen⟩ : g.some = true ∧ at_.length ≤ 100 := by
        have h9 : (bif !g.some then true else decide ((100 : Int) < at_.length)) = false := hc2
        rw [bif_or, Bool.or_eq_false_iff, Bool.not_eq_false', decide_eq_false_iff_not] at h9
        exact ⟨h9.1, by omega⟩
      have ht := tiny_of hsome
      apply WPA.skip
      apply WPA.seq
      apply WPA.region
      · first | apply Trace.pu [_] (.loadAllD ty25 (.plain rfl) rfl (by simp)) | apply Trace.pu [_] (.loadLocD ty25 (.plain rfl) rfl (fun _ => by simp)) | apply Trace.pu [_] (.loadLoc ty25 (.plain rfl) rfl (fun _ => Nat.le_of_ble_eq_true rfl)) | apply Trace.pu [] (.loadRp ty25 (.plain rfl) (fun _ => by decide)) | apply Trace.pu [] (.loadRp ty25 (.plain rfl) (fun _ => Nat.le_of_ble_eq_true rfl)) | apply Trace.pu [_] (.loadCol ty25 (.plain rfl) rfl rfl (fun _ => by decide) (fun _ => by omega)) | apply Trace.pu [_] (.loadArr ty25 (.plain rfl) rfl)
        apply Trace.pu [] (.move (.plain rfl))
        apply Trace.ct (callArgs0 (.cons (.plain rfl) (.cons (.plain rfl) .nil))) (memN hz (at_ := at_) (by omega) (p := (g.memory (at_)).1) (c := (g.memory (at_)).2) rfl) en14
        apply Trace.pu [] (.move (.plain rfl))
        apply Trace.pu [] (.extract (.plain rfl) rfl)
        apply Trace.pu [] (.extract (.plain rfl) rfl)
        apply Trace.alloc 7 [] (.data _) zo32 (cellsAs_data _) rfl
        first | apply Trace.storeD ty32 (.plain rfl) (.plain rfl) rfl rfl (by simp) (by simp [AV.oneB, single, intsD, rowsD]) (by simp) (spliceL_all (by simp)) | apply Trace.storeD ty32 (.plain rfl) (.plain rfl) rfl rfl (by simp) (by simp [AV.oneB, single, intsD, rowsD]) (by simp) rfl | apply Trace.storeDA ty32 (.plain rfl) (.plain rfl) rfl rfl (by simp) (by simp [AV.oneB, single]) (by simp) rfl | apply Trace.storeLoc ty32 (.plain rfl) (.plain rfl) rfl rfl (by simp) (by simp [AV.oneB, single]) (by simp) rfl | apply Trace.storeRow ty32 (.plain rfl) (.plain rfl) rfl rfl rfl rfl (by decide) (by simp [AV.oneB, single]) rfl (by omega)
        apply Trace.pu [] (.assign (.plain rfl))
        exact .nil _
      · exact keepOK_of hk hn rfl
      apply WPA.seq
      apply WPA.seq
      apply WPA.region
      · apply Trace.pu [] (.move (.plain rfl))
        apply Trace.pu [] (.cmp (.plain rfl) (.plain rfl) rfl)
        exact .nil _
      · exact keepOK_of hk hn rfl
      refine WPA.cond rfl (fun hc3 => ?_) (fun hc3 => ?_)
      · have hE : (g.memory at_).2 ≠ 0 := by simpa using hc3
        have hN := memory_err hE
        rw [hN]
        apply WPA.seq
        apply WPA.region
        · apply Trace.pu [] (.fieldAddr fl32_0 (.plain rfl) rfl)
          first | apply Trace.pu [_] (.loadLoc1D ty22 (.plain rfl) rfl rfl) | apply Trace.pu [_] (.loadLoc1 ty22 (.plain rfl) rfl rfl) | apply Trace.pu [] (.loadRp1 ty22 (.plain rfl) rfl) | apply Trace.pu [_] (.loadCol1 ty22 (.plain rfl) rfl rfl rfl (fun _ => by omega))
          apply Trace.pu [] (.len rfl Try.underlying22 (.plain rfl) rfl)
          apply Trace.pu [] (.cmp (.plain rfl) (.plain rfl) rfl)
          apply Trace.pu [] (.move (.plain rfl))
          apply Trace.pg [] rfl (.fieldAddr fl32_2 (.plain rfl) rfl)
          first | apply Trace.pg [_] rfl (.loadLoc1D ty3 (.gd rfl (fun h => h)) rfl rfl) | apply Trace.pg [_] rfl (.loadLoc1 ty3 (.gd rfl (fun h => h)) rfl rfl) | apply Trace.pg [] rfl (.loadRp1 ty3 (.gd rfl (fun h => h)) rfl) | apply Trace.pg [_] rfl (.loadCol1 ty3 (.gd rfl (fun h => h)) rfl rfl rfl (fun _ => by omega))
          apply Trace.pg [] rfl (.cmp (.gd rfl (fun h => h)) (.plain rfl) rfl)
          apply Trace.pu [] (.pick (.plain rfl) (.gd rfl (by simp)) (.plain rfl))
          apply Trace.pu [] (.assign (.plain rfl))
          exact .nil _
        · exact keepOK_of hk hn rfl
        apply WPA.ret
        refine ⟨.inr rfl, ⟨_, (.cons (.tmp rfl) .nil), ?_⟩, by simp [St.get]⟩
        rfl
      · have hE : (g.memory at_).2 = 0 := by simpa using hc3
        obtain ⟨hC, hP, hM⟩ := memory_ok hE
        rw [hM]
        have hok := g.ok_of (check_formed hC)
        obtain ⟨hp1, hp2, hp3⟩ := posB_iff hP
        have hdl := delTo_len g at_ g.es.length
        apply WPA.skip
        apply WPA.seq
        apply WPA.region
        · apply Trace.buildSlice 40 [] so22 zo3 rfl (by decide) (by decide) (.nil _ _) rfl rfl rfl
          apply Trace.pu [] (.move (.plain rfl))
          apply Trace.append 42 [bk 40, sl 40] ap22 kd22 (by decide) (.own (.plain rfl) rfl) (.rows (cs := [.ints .i64 at_]) (.plain rfl) rfl (by simp [Col.len]) (by intros; rfl)) (Col.ones rfl) (labs_ok rfl) (by omega) (by omega) rfl rfl
          apply Trace.pu [] (.assign (.plain rfl))
          exact .nil _
        · exact keepOK_of hk hn rfl
        apply WPA.seq
        apply WPA.seq
        refine WPA.ghost (Ghost.dsInts (l := 42) (k := .i64) (xs := at_) rfl (by rfl)) ?_
        apply WPA.region
        · apply Trace.pu [] (.move (.plain rfl))
          apply Trace.pu [] (.len rfl Try.underlying22 (.plain rfl) rfl)
          apply Trace.pu [] (.move (.plain rfl))
          exact .nil _
        · exact keepOK_of hk hn rfl
        apply WPA.block
        refine WPA.loop (σ := Nat) (fun i => [(sl 2, .av (iv .u16 by_)), (sl 3, .av (.loc 3 0)), (sl 7, .av (.loc 7 0)), (sl 9, .av (.own 42 at_.length)), (sl 44, .av (iv .i64 (at_.length))), (sl 45, .av (iv .i64 (i))), (bk 3, .blk (.data g.ds)), (bk 7, .blk (.data (g.planOf at_).ds)), (bk 42, .blk (.app 1 at_.length [.ints .i64 (addTo at_ by_ i)]))]) (fun i => i ≤ at_.length ∧ ∀ j, j < i → at_.getD j 0 + by_ ≤ 1099511627776) (fun i => at_.length - i) 0
          (St.le_cons rfl (St.le_cons rfl (St.le_cons rfl (St.le_cons (by rw [show 0 + at_.length = at_.length by omega]; rfl) (St.le_cons (slI (by omega)) (St.le_cons rfl (St.le_cons rfl (St.le_cons rfl (St.le_cons (by rw [addTo_zero, show 0 + at_.length = at_.length by omega]; rfl) (St.le_nil _)))))))))) ⟨Nat.zero_le _, fun j h => by omega⟩ fun i hi => ?_
        apply WPA.seq
        apply WPA.region
        · apply Trace.pu [] (.cmp (.plain rfl) (.plain rfl) rfl)
          exact .nil _
        · exact keepOK_of hk hn rfl
        apply WPA.seq
        refine WPA.cond rfl (fun hc4 => ?_) (fun hc4 => ?_)
        · have hlt : i < at_.length := by simpa using hc4
          have hal := addTo_length at_ by_ i
          have haa := addTo_at at_ by_ i hlt
          rw [if_neg (by omega)] at haa
          have haa2 : (addTo at_ by_ i).getD ((i : Nat) : Int).toNat 0 = at_.getD i 0 + 0 := haa
          have hbi := hp2.pos i (by omega)
          have hbi2 := hp3 i (by omega)
          have hbi : 0 ≤ at_.getD i 0 := hbi
          have hbi2 : at_.getD i 0 ≤ 1099511627776 := hbi2
          have has := addTo_succ (b := by_) hlt
          have hn9 : (addTo at_ by_ (i + 1)).getD i 0 = at_.getD i 0 + by_ := by rw [addTo_at _ _ _ hlt, if_pos (by omega)]
          have hl9 := addTo_length at_ by_ (i + 1)
          apply WPA.skip
          apply WPA.seq
          apply WPA.block
          apply WPA.seq
          apply WPA.region
          · apply Trace.pu [] (.move (.plain rfl))
            apply Trace.pu [] (.assign (.plain rfl))
            exact .nil _
          · exact keepOK_of hk hn rfl
          apply WPA.seq
          apply WPA.region
          · apply Trace.pu [] (.move (.plain rfl))
            apply Trace.pu [] (.move (.plain rfl))
            first | apply Trace.pu [] (.indexRows el22 (.plain rfl) (.plain rfl) (fun _ => ⟨by omega, by omega⟩)) | apply Trace.pu [] (.indexOwn el22 (.plain rfl) (.plain rfl) (fun _ => ⟨by omega, by omega⟩)) | apply Trace.pu [] (.indexSl el22 (.plain rfl) (.plain rfl) (fun _ => ⟨by omega, by omega⟩))
            first | apply Trace.pu [_] (.loadLoc1D ty3 (.plain rfl) rfl rfl) | apply Trace.pu [_] (.loadLoc1 ty3 (.plain rfl) rfl rfl) | apply Trace.pu [] (.loadRp1 ty3 (.plain rfl) rfl) | apply Trace.pu [_] (.loadCol1 ty3 (.plain rfl) rfl rfl rfl (fun _ => by omega))
            apply Trace.pu [] (.move (.plain rfl))
            apply Trace.pu [] ((Pure.conv Try.underlying46 Try.underlying3 (.plain rfl)).to (y := iv .i64 by_) (by rw [wrapI (by omega)]))
            apply Trace.pu [] (.arith (.plain rfl) (.plain rfl) rfl (fun _ => bd64 (by omega)))
            first | apply Trace.pu [] (.indexRows el22 (.plain rfl) (.plain rfl) (fun _ => ⟨by omega, by omega⟩)) | apply Trace.pu [] (.indexOwn el22 (.plain rfl) (.plain rfl) (fun _ => ⟨by omega, by omega⟩)) | apply Trace.pu [] (.indexSl el22 (.plain rfl) (.plain rfl) (fun _ => ⟨by omega, by omega⟩))
            first | apply Trace.storeD ty3 (.plain rfl) (.plain rfl) rfl rfl rfl (by simp [AV.oneB, single]) (Nat.le_of_ble_eq_true rfl) rfl | apply Trace.storeDA ty3 (.plain rfl) (.plain rfl) rfl rfl rfl (by simp [AV.oneB, single]) (Nat.le_of_ble_eq_true rfl) rfl | apply Trace.storeLoc ty3 (.plain rfl) (.plain rfl) rfl rfl rfl (by simp [AV.oneB, single]) (Nat.le_of_ble_eq_true rfl) rfl | apply Trace.storeRow ty3 (.plain rfl) (.plain rfl) rfl rfl rfl rfl (by decide) (by simp [AV.oneB, single]) rfl (by omega)
            exact .nil _
          · exact keepOK_of hk hn rfl
          apply WPA.seq
          refine WPA.weaken (T := [(sl 2, .av (iv .u16 by_)), (sl 3, .av (.loc 3 0)), (sl 7, .av (.loc 7 0)), (sl 9, .av (.own 42 at_.length)), (sl 10, .av (iv .i64 (i))), (sl 44, .av (iv .i64 (at_.length))), (sl 45, .av (iv .i64 (i))), (bk 3, .blk (.data g.ds)), (bk 7, .blk (.data (g.planOf at_).ds)), (bk 42, .blk (.app 1 at_.length [.ints .i64 (addTo at_ by_ (i + 1))]))]) ?_ (St.le_cons rfl (St.le_cons rfl (St.le_cons rfl (St.le_cons rfl (St.le_cons rfl (St.le_cons rfl (St.le_cons rfl (St.le_cons rfl (St.le_cons rfl (St.le_cons (app_eq64 has.symm) (St.le_nil _)))))))))))
          apply WPA.region
          · apply Trace.pu [] (.move (.plain rfl))
            apply Trace.pu [] (.move (.plain rfl))
            first | apply Trace.pu [] (.indexRows el22 (.plain rfl) (.plain rfl) (fun _ => ⟨by omega, by omega⟩)) | apply Trace.pu [] (.indexOwn el22 (.plain rfl) (.plain rfl) (fun _ => ⟨by omega, by omega⟩)) | apply Trace.pu [] (.indexSl el22 (.plain rfl) (.plain rfl) (fun _ => ⟨by omega, by omega⟩))
            first | apply Trace.pu [_] (.loadLoc1D ty3 (.plain rfl) rfl rfl) | apply Trace.pu [_] (.loadLoc1 ty3 (.plain rfl) rfl rfl) | apply Trace.pu [] (.loadRp1 ty3 (.plain rfl) rfl) | apply Trace.pu [_] (.loadCol1 ty3 (.plain rfl) rfl rfl rfl (fun _ => by omega))
            apply Trace.pu [] (.cmp (.plain rfl) (.plain rfl) rfl)
            exact .nil _
          · exact keepOK_of hk hn rfl
          refine WPA.cond rfl (fun hc5 => ?_) (fun hc5 => ?_)
          · apply WPA.seq
            apply WPA.region
            · apply Trace.pu [] (.assign (.plain rfl))
              exact .nil _
            · exact keepOK_of hk hn rfl
            apply WPA.ret
            refine ⟨.inr rfl, ⟨_, (.cons (.tmp rfl) .nil), ?_⟩, by simp [St.get]⟩
            rfl
          · apply WPA.skip
            apply WPA.region
            · apply Trace.pu [] (.arith (.plain rfl) (.plain rfl) rfl (fun _ => bd64 (by omega)))
              apply Trace.pu [] (.move (.plain rfl))
              exact .nil _
            · exact keepOK_of hk hn rfl
            have hx : at_.getD i 0 + by_ ≤ 1099511627776 := by
              have h9 : ¬ (1099511627776 < (addTo at_ by_ (i + 1)).getD i 0) := of_decide_eq_false hc5
              omega
            exact ⟨i + 1, ⟨by omega, fun j h => by
              by_cases hj : j = i
              · rw [hj]; exact hx
              · exact hi.2 j (by omega)⟩, by omega, St.le_cons rfl (St.le_cons rfl (St.le_cons rfl (St.le_cons rfl (St.le_cons rfl (St.le_cons (slI (by omega)) (St.le_cons rfl (St.le_cons rfl (St.le_cons rfl (St.le_nil _)))))))))⟩
        · have hin : i = at_.length := by
            have : ¬ ((i : Int) < at_.length) := by simpa using hc4
            omega
          subst hin
          obtain ⟨hL1, hL2, hL3⟩ := later_of hok hb0 hP hi.2
          have hMl := mem_pos hC hL1
          have hall := addTo_length at_ by_ at_.length
          have hdl2 := delTo_len g (addTo at_ by_ at_.length) g.es.length
          refine WPA.ghost (Ghost.freezeAs (t := 9) (l := 42) (g := fun k => [Col.at (.ints .i64 (addTo at_ by_ at_.length)) k]) rfl rfl (fun k hk => rfl)) ?_
          refine WPA.weaken (T := [(sl 3, .av (.loc 3 0)), (sl 7, .av (.loc 7 0)), (sl 9, .av (.d (intsD (addTo at_ by_ at_.length)))), (bk 3, .blk (.data g.ds)), (bk 7, .blk (.data (g.planOf at_).ds))]) ?_ (St.le_cons rfl (St.le_cons rfl (St.le_cons (by rw [intsD, hall]; rfl) (St.le_cons rfl (St.le_cons rfl (St.le_nil _))))))
          apply WPA.exit
          apply WPA.seq
          apply WPA.region
          · first | apply Trace.pu [_] (.loadAllD ty25 (.plain rfl) rfl (by simp)) | apply Trace.pu [_] (.loadLocD ty25 (.plain rfl) rfl (fun _ => by simp)) | apply Trace.pu [_] (.loadLoc ty25 (.plain rfl) rfl (fun _ => Nat.le_of_ble_eq_true rfl)) | apply Trace.pu [] (.loadRp ty25 (.plain rfl) (fun _ => by decide)) | apply Trace.pu [] (.loadRp ty25 (.plain rfl) (fun _ => Nat.le_of_ble_eq_true rfl)) | apply Trace.pu [_] (.loadCol ty25 (.plain rfl) rfl rfl (fun _ => by decide) (fun _ => by omega)) | apply Trace.pu [_] (.loadArr ty25 (.plain rfl) rfl)
            apply Trace.pu [] (.move (.plain rfl))
            apply Trace.ct (callArgs0 (.cons (.plain rfl) (.cons (.plain rfl) .nil))) (memN hz (at_ := addTo at_ by_ at_.length) (by omega) hMl) en14
            apply Trace.pu [] (.move (.plain rfl))
            apply Trace.pu [] (.extract (.plain rfl) rfl)
            apply Trace.pu [] (.extract (.plain rfl) rfl)
            apply Trace.alloc 11 [] (.data _) zo32 (cellsAs_data _) rfl
            first | apply Trace.storeD ty32 (.plain rfl) (.plain rfl) rfl rfl (by simp) (by simp [AV.oneB, single, intsD, rowsD]) (by simp) (spliceL_all (by simp)) | apply Trace.storeD ty32 (.plain rfl) (.plain rfl) rfl rfl (by simp) (by simp [AV.oneB, single, intsD, rowsD]) (by simp) rfl | apply Trace.storeDA ty32 (.plain rfl) (.plain rfl) rfl rfl (by simp) (by simp [AV.oneB, single]) (by simp) rfl | apply Trace.storeLoc ty32 (.plain rfl) (.plain rfl) rfl rfl (by simp) (by simp [AV.oneB, single]) (by simp) rfl | apply Trace.storeRow ty32 (.plain rfl) (.plain rfl) rfl rfl rfl rfl (by decide) (by simp [AV.oneB, single]) rfl (by omega)
            apply Trace.pu [] (.assign (.plain rfl))
            exact .nil _
          · exact keepOK_of hk hn rfl
          apply WPA.seq
          apply WPA.region
          · apply Trace.pu [] (.move (.plain rfl))
            apply Trace.pu [] (.cmp (.plain rfl) (.plain rfl) rfl)
            apply Trace.pu [] (.move (.plain rfl))
            apply Trace.pg [] rfl (.fieldAddr fl32_0 (.plain rfl) rfl)
            first | apply Trace.pg [_] rfl (.loadLoc1D ty22 (.gd rfl (fun h => h)) rfl rfl) | apply Trace.pg [_] rfl (.loadLoc1 ty22 (.gd rfl (fun h => h)) rfl rfl) | apply Trace.pg [] rfl (.loadRp1 ty22 (.gd rfl (fun h => h)) rfl) | apply Trace.pg [_] rfl (.loadCol1 ty22 (.gd rfl (fun h => h)) rfl rfl rfl (fun _ => by omega))
            apply Trace.pg [] rfl (.move (.plain rfl))
            apply Trace.cg rfl (callArgs0 (.cons (.gd rfl (fun h => h)) (.cons (.gd rfl (fun h => h)) .nil))) (fun _ => siT (a := addTo at_ by_ at_.length) (b := addTo at_ by_ at_.length) (by omega) rfl) en16
            apply Trace.pu [] (.pick (.plain rfl) (.gd rfl (by simp)) (.plain rfl))
            apply Trace.pu [] (.move (.plain rfl))
            apply Trace.pg [] rfl (.fieldAddr fl32_1 (.plain rfl) rfl)
            first | apply Trace.pg [_] rfl (.loadLoc1D ty22 (.gd rfl (fun h => h)) rfl rfl) | apply Trace.pg [_] rfl (.loadLoc1 ty22 (.gd rfl (fun h => h)) rfl rfl) | apply Trace.pg [] rfl (.loadRp1 ty22 (.gd rfl (fun h => h)) rfl) | apply Trace.pg [_] rfl (.loadCol1 ty22 (.gd rfl (fun h => h)) rfl rfl rfl (fun _ => by omega))
            apply Trace.pg [] rfl (.fieldAddr fl32_1 (.plain rfl) rfl)
            first | apply Trace.pg [_] rfl (.loadLoc1D ty22 (.gd rfl (fun h => h)) rfl rfl) | apply Trace.pg [_] rfl (.loadLoc1 ty22 (.gd rfl (fun h => h)) rfl rfl) | apply Trace.pg [] rfl (.loadRp1 ty22 (.gd rfl (fun h => h)) rfl) | apply Trace.pg [_] rfl (.loadCol1 ty22 (.gd rfl (fun h => h)) rfl rfl rfl (fun _ => by omega))
            apply Trace.cg rfl (callArgs0 (.cons (.gd rfl (fun h => h)) (.cons (.gd rfl (fun h => h)) .nil))) (fun _ => siT (a := g.delTo at_ g.es.length) (b := g.delTo (addTo at_ by_ at_.length) g.es.length) (by rw [hdl]; have := ht.m; omega) hL2.symm) en16
            apply Trace.pu [] (.pick (.plain rfl) (.gd rfl (by simp)) (.plain rfl))
            apply Trace.pu [] (.move (.plain rfl))
            apply Trace.pg [] rfl (.fieldAddr fl32_2 (.plain rfl) rfl)
            first | apply Trace.pg [_] rfl (.loadLoc1D ty3 (.gd rfl (fun h => h)) rfl rfl) | apply Trace.pg [_] rfl (.loadLoc1 ty3 (.gd rfl (fun h => h)) rfl rfl) | apply Trace.pg [] rfl (.loadRp1 ty3 (.gd rfl (fun h => h)) rfl) | apply Trace.pg [_] rfl (.loadCol1 ty3 (.gd rfl (fun h => h)) rfl rfl rfl (fun _ => by omega))
            apply Trace.pg [] rfl (.fieldAddr fl32_2 (.plain rfl) rfl)
            first | apply Trace.pg [_] rfl (.loadLoc1D ty3 (.gd rfl (fun h => h)) rfl rfl) | apply Trace.pg [_] rfl (.loadLoc1 ty3 (.gd rfl (fun h => h)) rfl rfl) | apply Trace.pg [] rfl (.loadRp1 ty3 (.gd rfl (fun h => h)) rfl) | apply Trace.pg [_] rfl (.loadCol1 ty3 (.gd rfl (fun h => h)) rfl rfl rfl (fun _ => by omega))
            apply Trace.pg [] rfl ((Pure.cmp (.gd rfl (fun h => h)) (.gd rfl (fun h => h)) rfl).to (y := bv true) (congrArg bv (decide_eq_true hL3.symm)))
            apply Trace.pu [] (.pick (.plain rfl) (.gd rfl (by simp)) (.plain rfl))
            apply Trace.pu [] (.assign (.plain rfl))
            exact .nil _
          · exact keepOK_of hk hn rfl
          apply WPA.ret
          refine ⟨.inr rfl, ⟨_, (.cons (.tmp rfl) .nil), ?_⟩, by simp [St.get]⟩
          rfl

/-- soundpost/soundpostlaw23.PlanLattice -/
theorem spec8 (g : Gr) (hz : g.Sz) (a b : List Int) (ha : a.length ≤ 4611686018427387904) (hb : b.length ≤ 4611686018427387904) : FnSpec Try.prog 8 [g.av, .d (intsD a), .d (intsD b)] [] (bv true) [] [] := by
  have hn1 := hz.n
  have hn2 := hz.m
  refine fnSpec_of (rs := [.tmp 6]) Try.func8 rfl rfl (Nat.le_of_ble_eq_true rfl) (by simp [St.get]) fun E hk hn => ?_
  apply WPA.seq
  apply WPA.region
  · first | apply Trace.boxD 3 [] (.plain rfl) rfl rfl | apply Trace.box 3 [] (.plain rfl) rfl rfl rfl
    apply Trace.pu [] (.assign (.plain rfl))
    exact .nil _
  · exact keepOK_of hk hn rfl
  apply WPA.seq
  apply WPA.seq
  apply WPA.region
  · apply Trace.cu (callArgs0 .nil) spec10 en10
    apply Trace.pu [] (.not (.plain rfl))
    exact .nil _
  · exact keepOK_of hk hn rfl
  refine WPA.cond rfl (fun hc1 => ?_) (fun hc1 => ?_)
  · cases hc1
  · apply WPA.skip
    apply WPA.seq
    apply WPA.seq
    apply WPA.region
    · first | apply Trace.pu [_] (.loadAllD ty25 (.plain rfl) rfl (by simp)) | apply Trace.pu [_] (.loadLocD ty25 (.plain rfl) rfl (fun _ => by simp)) | apply Trace.pu [_] (.loadLoc ty25 (.plain rfl) rfl (fun _ => Nat.le_of_ble_eq_true rfl)) | apply Trace.pu [] (.loadRp ty25 (.plain rfl) (fun _ => by decide)) | apply Trace.pu [] (.loadRp ty25 (.plain rfl) (fun _ => Nat.le_of_ble_eq_true rfl)) | apply Trace.pu [_] (.loadCol ty25 (.plain rfl) rfl rfl (fun _ => by decide) (fun _ => by omega)) | apply Trace.pu [_] (.loadArr ty25 (.plain rfl) rfl)
      apply Trace.cu (callArgs0 (.cons (.plain rfl) .nil)) (spec11 g hz) en11
      apply Trace.pu [] (.not (.plain rfl))
      apply Trace.pu [] (.move (.plain rfl))
      apply Trace.pg [] rfl (.move (.plain rfl))
      apply Trace.pg [] rfl (.len rfl Try.underlying22 (.gd rfl (fun h => h)) rfl)
      apply Trace.pg [] rfl (.cmp (.gd rfl (fun h => h)) (.plain rfl) rfl)
      apply Trace.pu [] (.pick (.plain rfl) (.plain rfl) (.gd rfl (by simp)))
      apply Trace.pu [] (.move (.plain rfl))
      apply Trace.pg [] rfl (.move (.plain rfl))
      apply Trace.pg [] rfl (.len rfl Try.underlying22 (.gd rfl (fun h => h)) rfl)
      apply Trace.pg [] rfl (.cmp (.gd rfl (fun h => h)) (.plain rfl) rfl)
      apply Trace.pu [] (.pick (.plain rfl) (.plain rfl) (.gd rfl (by simp)))
      exact .nil _
    · exact keepOK_of hk hn rfl
    refine WPA.cond rfl (fun hc2 => ?_) (fun hc2 => ?_)
    · apply WPA.seq
      apply WPA.region
      · apply Trace.pu [] (.assign (.plain rfl))
        exact .nil _
      · exact keepOK_of hk hn rfl
      apply WPA.ret
      refine ⟨.inr rfl, ⟨_, (.cons (.tmp rfl) .nil), ?_⟩, by simp [St.get]⟩
      rfl
    · obtain ⟨hsome, hlen, hlen2⟩ : g.some = true ∧ a.length ≤ 100 ∧ b.length ≤ 100 := by
        have h9 : (bif (bif !g.some then true else decide ((100 : Int) < a.length)) then true else decide ((100 : Int) < b.length)) = false := hc2
        rw [bif_or, bif_or, Bool.or_eq_false_iff, Bool.or_eq_false_iff, Bool.not_eq_false', decide_eq_false_iff_not, decide_eq_false_iff_not] at h9
        exact ⟨h9.1.1, by omega, by omega⟩
      have ht := tiny_of hsome
      apply WPA.skip
      apply WPA.seq
      apply WPA.region
      · first | apply Trace.pu [_] (.loadAllD ty25 (.plain rfl) rfl (by simp)) | apply Trace.pu [_] (.loadLocD ty25 (.plain rfl) rfl (fun _ => by simp)) | apply Trace.pu [_] (.loadLoc ty25 (.plain rfl) rfl (fun _ => Nat.le_of_ble_eq_true rfl)) | apply Trace.pu [] (.loadRp ty25 (.plain rfl) (fun _ => by decide)) | apply Trace.pu [] (.loadRp ty25 (.plain rfl) (fun _ => Nat.le_of_ble_eq_true rfl)) | apply Trace.pu [_] (.loadCol ty25 (.plain rfl) rfl rfl (fun _ => by decide) (fun _ => by omega)) | apply Trace.pu [_] (.loadArr ty25 (.plain rfl) rfl)
        apply Trace.pu [] (.move (.plain rfl))
        apply Trace.ct (callArgs0 (.cons (.plain rfl) (.cons (.plain rfl) .nil))) (memN hz (at_ := a) (by omega) (p := (g.memory (a)).1) (c := (g.memory (a)).2) rfl) en14
        apply Trace.pu [] (.move (.plain rfl))
        apply Trace.pu [] (.extract (.plain rfl) rfl)
        apply Trace.pu [] (.extract (.plain rfl) rfl)
        apply Trace.alloc 7 [] (.data _) zo32 (cellsAs_data _) rfl
        first | apply Trace.storeD ty32 (.plain rfl) (.plain rfl) rfl rfl (by simp) (by simp [AV.oneB, single, intsD, rowsD]) (by simp) (spliceL_all (by simp)) | apply Trace.storeD ty32 (.plain rfl) (.plain rfl) rfl rfl (by simp) (by simp [AV.oneB, single, intsD, rowsD]) (by simp) rfl | apply Trace.storeDA ty32 (.plain rfl) (.plain rfl) rfl rfl (by simp) (by simp [AV.oneB, single]) (by simp) rfl | apply Trace.storeLoc ty32 (.plain rfl) (.plain rfl) rfl rfl (by simp) (by simp [AV.oneB, single]) (by simp) rfl | apply Trace.storeRow ty32 (.plain rfl) (.plain rfl) rfl rfl rfl rfl (by decide) (by simp [AV.oneB, single]) rfl (by omega)
        apply Trace.pu [] (.assign (.plain rfl))
        exact .nil _
      · exact keepOK_of hk hn rfl
      apply WPA.seq
      apply WPA.region
      · first | apply Trace.pu [_] (.loadAllD ty25 (.plain rfl) rfl (by simp)) | apply Trace.pu [_] (.loadLocD ty25 (.plain rfl) rfl (fun _ => by simp)) | apply Trace.pu [_] (.loadLoc ty25 (.plain rfl) rfl (fun _ => Nat.le_of_ble_eq_true rfl)) | apply Trace.pu [] (.loadRp ty25 (.plain rfl) (fun _ => by decide)) | apply Trace.pu [] (.loadRp ty25 (.plain rfl) (fun _ => Nat.le_of_ble_eq_true rfl)) | apply Trace.pu [_] (.loadCol ty25 (.plain rfl) rfl rfl (fun _ => by decide) (fun _ => by omega)) | apply Trace.pu [_] (.loadArr ty25 (.plain rfl) rfl)
        apply Trace.pu [] (.move (.plain rfl))
        apply Trace.ct (callArgs0 (.cons (.plain rfl) (.cons (.plain rfl) .nil))) (memN hz (at_ := b) (by omega) (p := (g.memory (b)).1) (c := (g.memory (b)).2) rfl) en14
        apply Trace.pu [] (.move (.plain rfl))
        apply Trace.pu [] (.extract (.plain rfl) rfl)
        apply Trace.pu [] (.extract (.plain rfl) rfl)
        apply Trace.alloc 9 [] (.data _) zo32 (cellsAs_data _) rfl
        first | apply Trace.storeD ty32 (.plain rfl) (.plain rfl) rfl rfl (by simp) (by simp [AV.oneB, single, intsD, rowsD]) (by simp) (spliceL_all (by simp)) | apply Trace.storeD ty32 (.plain rfl) (.plain rfl) rfl rfl (by simp) (by simp [AV.oneB, single, intsD, rowsD]) (by simp) rfl | apply Trace.storeDA ty32 (.plain rfl) (.plain rfl) rfl rfl (by simp) (by simp [AV.oneB, single]) (by simp) rfl | apply Trace.storeLoc ty32 (.plain rfl) (.plain rfl) rfl rfl (by simp) (by simp [AV.oneB, single]) (by simp) rfl | apply Trace.storeRow ty32 (.plain rfl) (.plain rfl) rfl rfl rfl rfl (by decide) (by simp [AV.oneB, single]) rfl (by omega)
        apply Trace.pu [] (.assign (.plain rfl))
        exact .nil _
      · exact keepOK_of hk hn rfl
      apply WPA.seq
      apply WPA.seq
      apply WPA.region
      · apply Trace.pu [] (.move (.plain rfl))
        apply Trace.pu [] (.cmp (.plain rfl) (.plain rfl) rfl)
        apply Trace.pu [] (.move (.plain rfl))
        apply Trace.pg [] rfl (.move (.plain rfl))
        apply Trace.pg [] rfl (.cmp (.gd rfl (fun h => h)) (.plain rfl) rfl)
        apply Trace.pu [] (.pick (.plain rfl) (.plain rfl) (.gd rfl (by simp)))
        apply Trace.pu [] (.move (.plain rfl))
        apply Trace.pg [] rfl (.move (.plain rfl))
        apply Trace.pg [] rfl (.len rfl Try.underlying22 (.gd rfl (fun h => h)) rfl)
        apply Trace.pg [] rfl (.move (.plain rfl))
        apply Trace.pg [] rfl (.len rfl Try.underlying22 (.gd rfl (fun h => h)) rfl)
        apply Trace.pg [] rfl (.cmp (.gd rfl (fun h => h)) (.gd rfl (fun h => h)) rfl)
        apply Trace.pu [] (.pick (.plain rfl) (.plain rfl) (.gd rfl (by simp)))
        exact .nil _
      · exact keepOK_of hk hn rfl
      refine WPA.cond rfl (fun hc3 => ?_) (fun hc3 => ?_)
      · apply WPA.seq
        apply WPA.region
        · apply Trace.pu [] (.move (.plain rfl))
          apply Trace.pu [] (.cmp (.plain rfl) (.plain rfl) rfl)
          apply Trace.pu [] (.move (.plain rfl))
          apply Trace.pg [] rfl (.move (.plain rfl))
          apply Trace.pg [] rfl (.cmp (.gd rfl (fun h => h)) (.plain rfl) rfl)
          apply Trace.pu [] (.pick (.plain rfl) (.plain rfl) (.gd rfl (by simp)))
          apply Trace.pu [] (.assign (.plain rfl))
          exact .nil _
        · exact keepOK_of hk hn rfl
        apply WPA.ret
        refine ⟨.inr rfl, ⟨_, (.cons (.tmp rfl) .nil), ?_⟩, by simp [St.get]⟩
        have h9 : (bif (bif !decide ((g.memory a).2 = 0) then true else !decide ((g.memory b).2 = 0)) then true else !decide ((a.length : Int) = b.length)) = true := hc3
        have e9 : (bif !decide ((g.memory a).2 = 0) then true else !decide ((g.memory b).2 = 0)) = true := by
          rw [bif_or, bif_or] at h9
          rw [bif_or]
          cases h8 : (!decide ((g.memory a).2 = 0) || !decide ((g.memory b).2 = 0)) with
          | true => rfl
          | false =>
            rw [h8] at h9
            rw [Bool.or_eq_false_iff, Bool.not_eq_false', Bool.not_eq_false', decide_eq_true_eq, decide_eq_true_eq] at h8
            obtain ⟨_, hP, _⟩ := memory_ok h8.1
            obtain ⟨_, hP2, _⟩ := memory_ok h8.2
            have h1 := (posB_iff hP).1
            have h2 := (posB_iff hP2).1
            rw [decide_eq_true (by omega)] at h9
            cases h9
        exact congrArg bv e9.symm
      · obtain ⟨hE1, hE2, hlab⟩ : (g.memory a).2 = 0 ∧ (g.memory b).2 = 0 ∧ a.length = b.length := by
          have h9 : (bif (bif !decide ((g.memory a).2 = 0) then true else !decide ((g.memory b).2 = 0)) then true else !decide ((a.length : Int) = b.length)) = false := hc3
          rw [bif_or, bif_or, Bool.or_eq_false_iff, Bool.or_eq_false_iff, Bool.not_eq_false', Bool.not_eq_false', Bool.not_eq_false', decide_eq_true_eq, decide_eq_true_eq, decide_eq_true_eq] at h9
          exact ⟨h9.1.1, h9.1.2, by omega⟩
        obtain ⟨hC, hP, hM⟩ := memory_ok hE1
        obtain ⟨_, hP2, hM2⟩ := memory_ok hE2
        rw [hM, hM2]
        have hok := g.ok_of (check_formed hC)
        obtain ⟨hp1, hp2, hp3⟩ := posB_iff hP
        obtain ⟨hq1, hq2, hq3⟩ := posB_iff hP2
        obtain ⟨hL1, hL2, hL3⟩ := lattice_of hok hP hP2
        apply WPA.skip
        apply WPA.seq
        apply WPA.draw mixed
        · apply Trace.pu [] (.move (.plain rfl))
          apply Trace.pu [] (.len rfl Try.underlying22 (.plain rfl) rfl)
          apply Trace.makeSlice 66 [] so22 by3 zo3 rfl (by decide) (.plain rfl) (.plain rfl) ⟨by omega, by omega⟩ (by omega) (by omega) rfl rfl
          apply Trace.pu [] (.move (.plain rfl))
          apply Trace.pu [] (.len rfl Try.underlying22 (.plain rfl) rfl)
          apply Trace.makeSlice 69 [] so22 by3 zo3 rfl (by decide) (.plain rfl) (.plain rfl) ⟨by omega, by omega⟩ (by omega) (by omega) rfl rfl
          apply Trace.pu [] (.assign (.plain rfl))
          apply Trace.pu [] (.assign (.plain rfl))
          exact .nil _
        · rfl
        · exact keepOK_of hk hn rfl
        apply WPA.seq
        apply WPA.seq
        apply WPA.region
        · apply Trace.pu [] (.move (.plain rfl))
          apply Trace.pu [] (.len rfl Try.underlying22 (.plain rfl) rfl)
          apply Trace.pu [] (.move (.plain rfl))
          exact .nil _
        · exact keepOK_of hk hn rfl
        apply WPA.block
        refine WPA.loop (σ := Nat) (fun i => [(sl 1, .av (.d (intsD a))), (sl 2, .av (.d (intsD b))), (sl 3, .av (.loc 3 0)), (sl 7, .av (.loc 7 0)), (sl 9, .av (.loc 9 0)), (sl 11, .av (.own 66 a.length)), (sl 12, .av (.own 69 a.length)), (sl 71, .av (iv .i64 (a.length))), (sl 72, .av (iv .i64 (i))), (bk 3, .blk (.data g.ds)), (bk 7, .blk (.data (g.planOf a).ds)), (bk 9, .blk (.data (g.planOf b).ds)), (bk 66, .blk (.app 1 a.length [.ints .i64 (pickTo min a b i)])), (bk 69, .blk (.app 1 a.length [.ints .i64 (pickTo max a b i)]))]) (fun i => i ≤ a.length) (fun i => a.length - i) 0
          (St.le_cons rfl (St.le_cons rfl (St.le_cons rfl (St.le_cons rfl (St.le_cons rfl (St.le_cons rfl (St.le_cons rfl (St.le_cons rfl (St.le_cons rfl (St.le_cons rfl (St.le_cons rfl (St.le_cons rfl (St.le_cons (app_eq64 (pickTo_zero _ _ _).symm) (St.le_cons (app_eq64 (pickTo_zero _ _ _).symm) (St.le_nil _))))))))))))))) (Nat.zero_le _) fun i hi => ?_
        apply WPA.seq
        apply WPA.region
        · apply Trace.pu [] (.cmp (.plain rfl) (.plain rfl) rfl)
          exact .nil _
        · exact keepOK_of hk hn rfl
        apply WPA.seq
        refine WPA.cond rfl (fun hc4 => ?_) (fun hc4 => ?_)
        · have hlt : i < a.length := by simpa using hc4
          have h1l := pickTo_length min a b i
          have h2l := pickTo_length max a b i
          have h1s := pickTo_succ (f := min) (a := a) (b := b) hlt
          have h2s := pickTo_succ (f := max) (a := a) (b := b) hlt
          apply WPA.skip
          apply WPA.seq
          apply WPA.block
          apply WPA.seq
          apply WPA.region
          · apply Trace.pu [] (.move (.plain rfl))
            apply Trace.pu [] (.assign (.plain rfl))
            exact .nil _
          · exact keepOK_of hk hn rfl
          apply WPA.draw mixed
          · apply Trace.pu [] (.move (.plain rfl))
            apply Trace.pu [] (.move (.plain rfl))
            apply Trace.pu [] (.move (.plain rfl))
            apply Trace.pu [] (.move (.plain rfl))
            apply Trace.pu [] (.move (.plain rfl))
            apply Trace.pu [] (.move (.plain rfl))
            first | apply Trace.pu [] (.indexRows el22 (.plain rfl) (.plain rfl) (fun _ => ⟨by omega, by omega⟩)) | apply Trace.pu [] (.indexOwn el22 (.plain rfl) (.plain rfl) (fun _ => ⟨by omega, by omega⟩)) | apply Trace.pu [] (.indexSl el22 (.plain rfl) (.plain rfl) (fun _ => ⟨by omega, by omega⟩))
            first | apply Trace.pu [_] (.loadLoc1D ty3 (.plain rfl) rfl rfl) | apply Trace.pu [_] (.loadLoc1 ty3 (.plain rfl) rfl rfl) | apply Trace.pu [] (.loadRp1 ty3 (.plain rfl) rfl) | apply Trace.pu [_] (.loadCol1 ty3 (.plain rfl) rfl rfl rfl (fun _ => by omega))
            apply Trace.pu [] (.move (.plain rfl))
            apply Trace.pu [] (.move (.plain rfl))
            first | apply Trace.pu [] (.indexRows el22 (.plain rfl) (.plain rfl) (fun _ => ⟨by omega, by omega⟩)) | apply Trace.pu [] (.indexOwn el22 (.plain rfl) (.plain rfl) (fun _ => ⟨by omega, by omega⟩)) | apply Trace.pu [] (.indexSl el22 (.plain rfl) (.plain rfl) (fun _ => ⟨by omega, by omega⟩))
            first | apply Trace.pu [_] (.loadLoc1D ty3 (.plain rfl) rfl rfl) | apply Trace.pu [_] (.loadLoc1 ty3 (.plain rfl) rfl rfl) | apply Trace.pu [] (.loadRp1 ty3 (.plain rfl) rfl) | apply Trace.pu [_] (.loadCol1 ty3 (.plain rfl) rfl rfl rfl (fun _ => by omega))
            apply Trace.pu [] (.min2 (.plain rfl) (.plain rfl))
            apply Trace.pu [] (.move (.plain rfl))
            apply Trace.pu [] (.move (.plain rfl))
            first | apply Trace.pu [] (.indexRows el22 (.plain rfl) (.plain rfl) (fun _ => ⟨by omega, by omega⟩)) | apply Trace.pu [] (.indexOwn el22 (.plain rfl) (.plain rfl) (fun _ => ⟨by omega, by omega⟩)) | apply Trace.pu [] (.indexSl el22 (.plain rfl) (.plain rfl) (fun _ => ⟨by omega, by omega⟩))
            first | apply Trace.pu [_] (.loadLoc1D ty3 (.plain rfl) rfl rfl) | apply Trace.pu [_] (.loadLoc1 ty3 (.plain rfl) rfl rfl) | apply Trace.pu [] (.loadRp1 ty3 (.plain rfl) rfl) | apply Trace.pu [_] (.loadCol1 ty3 (.plain rfl) rfl rfl rfl (fun _ => by omega))
            apply Trace.pu [] (.move (.plain rfl))
            apply Trace.pu [] (.move (.plain rfl))
            first | apply Trace.pu [] (.indexRows el22 (.plain rfl) (.plain rfl) (fun _ => ⟨by omega, by omega⟩)) | apply Trace.pu [] (.indexOwn el22 (.plain rfl) (.plain rfl) (fun _ => ⟨by omega, by omega⟩)) | apply Trace.pu [] (.indexSl el22 (.plain rfl) (.plain rfl) (fun _ => ⟨by omega, by omega⟩))
            first | apply Trace.pu [_] (.loadLoc1D ty3 (.plain rfl) rfl rfl) | apply Trace.pu [_] (.loadLoc1 ty3 (.plain rfl) rfl rfl) | apply Trace.pu [] (.loadRp1 ty3 (.plain rfl) rfl) | apply Trace.pu [_] (.loadCol1 ty3 (.plain rfl) rfl rfl rfl (fun _ => by omega))
            apply Trace.pu [] (.max2 (.plain rfl) (.plain rfl))
            first | apply Trace.pu [] (.indexRows el22 (.plain rfl) (.plain rfl) (fun _ => ⟨by omega, by omega⟩)) | apply Trace.pu [] (.indexOwn el22 (.plain rfl) (.plain rfl) (fun _ => ⟨by omega, by omega⟩)) | apply Trace.pu [] (.indexSl el22 (.plain rfl) (.plain rfl) (fun _ => ⟨by omega, by omega⟩))
            first | apply Trace.storeD ty3 (.plain rfl) (.plain rfl) rfl rfl rfl (by simp [AV.oneB, single]) (Nat.le_of_ble_eq_true rfl) rfl | apply Trace.storeDA ty3 (.plain rfl) (.plain rfl) rfl rfl rfl (by simp [AV.oneB, single]) (Nat.le_of_ble_eq_true rfl) rfl | apply Trace.storeLoc ty3 (.plain rfl) (.plain rfl) rfl rfl rfl (by simp [AV.oneB, single]) (Nat.le_of_ble_eq_true rfl) rfl | apply Trace.storeRow ty3 (.plain rfl) (.plain rfl) rfl rfl rfl rfl (by decide) (by simp [AV.oneB, single]) rfl (by omega)
            first | apply Trace.pu [] (.indexRows el22 (.plain rfl) (.plain rfl) (fun _ => ⟨by omega, by omega⟩)) | apply Trace.pu [] (.indexOwn el22 (.plain rfl) (.plain rfl) (fun _ => ⟨by omega, by omega⟩)) | apply Trace.pu [] (.indexSl el22 (.plain rfl) (.plain rfl) (fun _ => ⟨by omega, by omega⟩))
            first | apply Trace.storeD ty3 (.plain rfl) (.plain rfl) rfl rfl rfl (by simp [AV.oneB, single]) (Nat.le_of_ble_eq_true rfl) rfl | apply Trace.storeDA ty3 (.plain rfl) (.plain rfl) rfl rfl rfl (by simp [AV.oneB, single]) (Nat.le_of_ble_eq_true rfl) rfl | apply Trace.storeLoc ty3 (.plain rfl) (.plain rfl) rfl rfl rfl (by simp [AV.oneB, single]) (Nat.le_of_ble_eq_true rfl) rfl | apply Trace.storeRow ty3 (.plain rfl) (.plain rfl) rfl rfl rfl rfl (by decide) (by simp [AV.oneB, single]) rfl (by omega)
            exact .nil _
          · rfl
          · exact keepOK_of hk hn rfl
          apply WPA.region
          · apply Trace.pu [] (.arith (.plain rfl) (.plain rfl) rfl (fun _ => bd64 (by omega)))
            apply Trace.pu [] (.move (.plain rfl))
            exact .nil _
          · exact keepOK_of hk hn rfl
          exact ⟨i + 1, by omega, by omega, St.le_cons rfl (St.le_cons rfl (St.le_cons rfl (St.le_cons rfl (St.le_cons rfl (St.le_cons rfl (St.le_cons rfl (St.le_cons rfl (St.le_cons (slI (by omega)) (St.le_cons rfl (St.le_cons rfl (St.le_cons rfl (St.le_cons (app_eq64 h1s.symm) (St.le_cons (app_eq64 h2s.symm) (St.le_nil _))))))))))))))⟩
        · have hin : i = a.length := by
            have : ¬ ((i : Int) < a.length) := by simpa using hc4
            omega
          subst hin
          have h1l := pickTo_length min a b a.length
          have h2l := pickTo_length max a b a.length
          refine WPA.ghost (Ghost.freezeAs (t := 11) (l := 66) (g := fun k => [Col.at (.ints .i64 (pickTo min a b a.length)) k]) rfl rfl (fun k hk => rfl)) ?_
          refine WPA.ghost (Ghost.freezeAs (t := 12) (l := 69) (g := fun k => [Col.at (.ints .i64 (pickTo max a b a.length)) k]) rfl rfl (fun k hk => rfl)) ?_
          have hat1 : AtOK g a := atOK_of hp1 (by unfold Gr.posB at hP; simp only [Bool.and_eq_true] at hP; exact hP.2.1)
          have hat2 : AtOK g b := atOK_of hq1 (by unfold Gr.posB at hP2; simp only [Bool.and_eq_true] at hP2; exact hP2.2.1)
          have hat3 : AtOK g (pickTo min a b a.length) := atOK_of (posB_iff hL1).1 (by unfold Gr.posB at hL1; simp only [Bool.and_eq_true] at hL1; exact hL1.2.1)
          have hat4 : AtOK g (pickTo max a b a.length) := atOK_of (posB_iff hL2).1 (by unfold Gr.posB at hL2; simp only [Bool.and_eq_true] at hL2; exact hL2.2.1)
          have hb1 := tiny_mem hok ht hat1
          have hb2 := tiny_mem hok ht hat2
          have hb3 := tiny_mem hok ht hat3
          have hb4 := tiny_mem hok ht hat4
          have k1 : (g.planOf a).mem = g.memTo a g.es.length := rfl
          have k2 : (g.planOf b).mem = g.memTo b g.es.length := rfl
          have k3 : (g.planOf (pickTo min a b a.length)).mem = g.memTo (pickTo min a b a.length) g.es.length := rfl
          have k4 : (g.planOf (pickTo max a b a.length)).mem = g.memTo (pickTo max a b a.length) g.es.length := rfl
          refine WPA.weaken (T := [(sl 3, .av (.loc 3 0)), (sl 7, .av (.loc 7 0)), (sl 9, .av (.loc 9 0)), (sl 11, .av (.d (intsD (pickTo min a b a.length)))), (sl 12, .av (.d (intsD (pickTo max a b a.length)))), (bk 3, .blk (.data g.ds)), (bk 7, .blk (.data (g.planOf a).ds)), (bk 9, .blk (.data (g.planOf b).ds))]) ?_ (St.le_cons rfl (St.le_cons rfl (St.le_cons rfl (St.le_cons (d_eq (by rw [intsD, h1l]; rfl)) (St.le_cons (d_eq (by rw [intsD, h2l]; rfl)) (St.le_cons rfl (St.le_cons rfl (St.le_cons rfl (St.le_nil _)))))))))
          apply WPA.exit
          apply WPA.seq
          apply WPA.region
          · first | apply Trace.pu [_] (.loadAllD ty25 (.plain rfl) rfl (by simp)) | apply Trace.pu [_] (.loadLocD ty25 (.plain rfl) rfl (fun _ => by simp)) | apply Trace.pu [_] (.loadLoc ty25 (.plain rfl) rfl (fun _ => Nat.le_of_ble_eq_true rfl)) | apply Trace.pu [] (.loadRp ty25 (.plain rfl) (fun _ => by decide)) | apply Trace.pu [] (.loadRp ty25 (.plain rfl) (fun _ => Nat.le_of_ble_eq_true rfl)) | apply Trace.pu [_] (.loadCol ty25 (.plain rfl) rfl rfl (fun _ => by decide) (fun _ => by omega)) | apply Trace.pu [_] (.loadArr ty25 (.plain rfl) rfl)
            apply Trace.pu [] (.move (.plain rfl))
            apply Trace.ct (callArgs0 (.cons (.plain rfl) (.cons (.plain rfl) .nil))) (memN hz (at_ := pickTo min a b a.length) (by omega) (mem_pos hC hL1)) en14
            apply Trace.pu [] (.move (.plain rfl))
            apply Trace.pu [] (.extract (.plain rfl) rfl)
            apply Trace.pu [] (.extract (.plain rfl) rfl)
            apply Trace.alloc 14 [] (.data _) zo32 (cellsAs_data _) rfl
            first | apply Trace.storeD ty32 (.plain rfl) (.plain rfl) rfl rfl (by simp) (by simp [AV.oneB, single, intsD, rowsD]) (by simp) (spliceL_all (by simp)) | apply Trace.storeD ty32 (.plain rfl) (.plain rfl) rfl rfl (by simp) (by simp [AV.oneB, single, intsD, rowsD]) (by simp) rfl | apply Trace.storeDA ty32 (.plain rfl) (.plain rfl) rfl rfl (by simp) (by simp [AV.oneB, single]) (by simp) rfl | apply Trace.storeLoc ty32 (.plain rfl) (.plain rfl) rfl rfl (by simp) (by simp [AV.oneB, single]) (by simp) rfl | apply Trace.storeRow ty32 (.plain rfl) (.plain rfl) rfl rfl rfl rfl (by decide) (by simp [AV.oneB, single]) rfl (by omega)
            apply Trace.pu [] (.assign (.plain rfl))
            exact .nil _
          · exact keepOK_of hk hn rfl
          apply WPA.seq
          apply WPA.region
          · first | apply Trace.pu [_] (.loadAllD ty25 (.plain rfl) rfl (by simp)) | apply Trace.pu [_] (.loadLocD ty25 (.plain rfl) rfl (fun _ => by simp)) | apply Trace.pu [_] (.loadLoc ty25 (.plain rfl) rfl (fun _ => Nat.le_of_ble_eq_true rfl)) | apply Trace.pu [] (.loadRp ty25 (.plain rfl) (fun _ => by decide)) | apply Trace.pu [] (.loadRp ty25 (.plain rfl) (fun _ => Nat.le_of_ble_eq_true rfl)) | apply Trace.pu [_] (.loadCol ty25 (.plain rfl) rfl rfl (fun _ => by decide) (fun _ => by omega)) | apply Trace.pu [_] (.loadArr ty25 (.plain rfl) rfl)
            apply Trace.pu [] (.move (.plain rfl))
            apply Trace.ct (callArgs0 (.cons (.plain rfl) (.cons (.plain rfl) .nil))) (memN hz (at_ := pickTo max a b a.length) (by omega) (mem_pos hC hL2)) en14
            apply Trace.pu [] (.move (.plain rfl))
            apply Trace.pu [] (.extract (.plain rfl) rfl)
            apply Trace.pu [] (.extract (.plain rfl) rfl)
            apply Trace.alloc 16 [] (.data _) zo32 (cellsAs_data _) rfl
            first | apply Trace.storeD ty32 (.plain rfl) (.plain rfl) rfl rfl (by simp) (by simp [AV.oneB, single, intsD, rowsD]) (by simp) (spliceL_all (by simp)) | apply Trace.storeD ty32 (.plain rfl) (.plain rfl) rfl rfl (by simp) (by simp [AV.oneB, single, intsD, rowsD]) (by simp) rfl | apply Trace.storeDA ty32 (.plain rfl) (.plain rfl) rfl rfl (by simp) (by simp [AV.oneB, single]) (by simp) rfl | apply Trace.storeLoc ty32 (.plain rfl) (.plain rfl) rfl rfl (by simp) (by simp [AV.oneB, single]) (by simp) rfl | apply Trace.storeRow ty32 (.plain rfl) (.plain rfl) rfl rfl rfl rfl (by decide) (by simp [AV.oneB, single]) rfl (by omega)
            apply Trace.pu [] (.assign (.plain rfl))
            exact .nil _
          · exact keepOK_of hk hn rfl
          apply WPA.seq
          apply WPA.region
          · apply Trace.pu [] (.move (.plain rfl))
            apply Trace.pu [] (.cmp (.plain rfl) (.plain rfl) rfl)
            apply Trace.pu [] (.move (.plain rfl))
            apply Trace.pg [] rfl (.move (.plain rfl))
            apply Trace.pg [] rfl (.cmp (.gd rfl (fun h => h)) (.plain rfl) rfl)
            apply Trace.pu [] (.pick (.plain rfl) (.gd rfl (by simp)) (.plain rfl))
            apply Trace.pu [] (.move (.plain rfl))
            apply Trace.pg [] rfl (.fieldAddr fl32_2 (.plain rfl) rfl)
            first | apply Trace.pg [_] rfl (.loadLoc1D ty3 (.gd rfl (fun h => h)) rfl rfl) | apply Trace.pg [_] rfl (.loadLoc1 ty3 (.gd rfl (fun h => h)) rfl rfl) | apply Trace.pg [] rfl (.loadRp1 ty3 (.gd rfl (fun h => h)) rfl) | apply Trace.pg [_] rfl (.loadCol1 ty3 (.gd rfl (fun h => h)) rfl rfl rfl (fun _ => by omega))
            apply Trace.pg [] rfl (.fieldAddr fl32_2 (.plain rfl) rfl)
            first | apply Trace.pg [_] rfl (.loadLoc1D ty3 (.gd rfl (fun h => h)) rfl rfl) | apply Trace.pg [_] rfl (.loadLoc1 ty3 (.gd rfl (fun h => h)) rfl rfl) | apply Trace.pg [] rfl (.loadRp1 ty3 (.gd rfl (fun h => h)) rfl) | apply Trace.pg [_] rfl (.loadCol1 ty3 (.gd rfl (fun h => h)) rfl rfl rfl (fun _ => by omega))
            apply Trace.pg [] rfl (.arith (.gd rfl (fun h => h)) (.gd rfl (fun h => h)) rfl (fun _ => bd64 (by omega)))
            apply Trace.pg [] rfl (.fieldAddr fl32_2 (.plain rfl) rfl)
            first | apply Trace.pg [_] rfl (.loadLoc1D ty3 (.gd rfl (fun h => h)) rfl rfl) | apply Trace.pg [_] rfl (.loadLoc1 ty3 (.gd rfl (fun h => h)) rfl rfl) | apply Trace.pg [] rfl (.loadRp1 ty3 (.gd rfl (fun h => h)) rfl) | apply Trace.pg [_] rfl (.loadCol1 ty3 (.gd rfl (fun h => h)) rfl rfl rfl (fun _ => by omega))
            apply Trace.pg [] rfl (.fieldAddr fl32_2 (.plain rfl) rfl)
            first | apply Trace.pg [_] rfl (.loadLoc1D ty3 (.gd rfl (fun h => h)) rfl rfl) | apply Trace.pg [_] rfl (.loadLoc1 ty3 (.gd rfl (fun h => h)) rfl rfl) | apply Trace.pg [] rfl (.loadRp1 ty3 (.gd rfl (fun h => h)) rfl) | apply Trace.pg [_] rfl (.loadCol1 ty3 (.gd rfl (fun h => h)) rfl rfl rfl (fun _ => by omega))
            apply Trace.pg [] rfl (.arith (.gd rfl (fun h => h)) (.gd rfl (fun h => h)) rfl (fun _ => bd64 (by omega)))
            apply Trace.pg [] rfl ((Pure.cmp (.gd rfl (fun h => h)) (.gd rfl (fun h => h)) rfl).to (y := bv true) (congrArg bv (decide_eq_true hL3)))
            apply Trace.pu [] (.pick (.plain rfl) (.gd rfl (by simp)) (.plain rfl))
            apply Trace.pu [] (.assign (.plain rfl))
            exact .nil _
          · exact keepOK_of hk hn rfl
          apply WPA.ret
          refine ⟨.inr rfl, ⟨_, (.cons (.tmp rfl) .nil), ?_⟩, by simp [St.get]⟩
          rfl

end Go.Proofs.Ytkieenlidehdgaa

