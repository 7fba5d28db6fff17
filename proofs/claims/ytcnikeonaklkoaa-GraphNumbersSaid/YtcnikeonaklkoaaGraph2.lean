/- The shortest ways by nodes, in plain Lean; that they find a cycle that is too short just where the rounds do. No program in sight. -/
import Derived.Test.YtcnikeonaklkoaaGraph
namespace Go.Proofs.Ytcnikeonaklkoaa
set_option linter.unusedVariables false
set_option linter.unusedSimpArgs false

abbrev FAR : Int := 1099511627776
abbrev wa (w : List (List Int)) (i k : Nat) : Int := (w.getD i []).getD k 0
def mset (w : List (List Int)) (i k : Nat) (x : Int) : List (List Int) := w.set i ((w.getD i []).set k x)
structure Sq (n : Nat) (w : List (List Int)) : Prop where
  len : w.length = n
  row : ∀ i, i < n → (w.getD i []).length = n
theorem getDL_set {l : List (List Int)} {i j : Nat} {x : List Int} (h : i < l.length) : (l.set i x).getD j [] = if i = j then x else l.getD j [] := by
  simp only [List.getD_eq_getElem?_getD, List.getElem?_set]
  by_cases hij : i = j
  · subst hij; simp [h]
  · simp [hij]
theorem Sq.mset {n : Nat} {w : List (List Int)} (h : Sq n w) {i k : Nat} (hi : i < n) (x : Int) : Sq n (mset w i k x) := by
  refine ⟨by simp [Go.Proofs.Ytcnikeonaklkoaa.mset, h.len], fun j hj => ?_⟩
  unfold Go.Proofs.Ytcnikeonaklkoaa.mset
  rw [getDL_set (by rw [h.len]; exact hi)]
  split
  · rw [List.length_set]; exact h.row i hi
  · exact h.row j hj
theorem wa_mset {n : Nat} {w : List (List Int)} (h : Sq n w) {i k : Nat} (hi : i < n) (hk : k < n) (x : Int) (a b : Nat) : wa (mset w i k x) a b = if i = a ∧ k = b then x else wa w a b := by
  unfold mset wa
  rw [getDL_set (by rw [h.len]; exact hi)]
  by_cases ha : i = a
  · subst ha
    rw [if_pos rfl, getD_set (by rw [h.row i hi]; exact hk)]
    by_cases hb : k = b
    · simp [hb]
    · simp [hb]
  · simp [ha]

def way0 (n : Nat) : List (List Int) := List.replicate n (List.replicate n FAR)
def wayE (g : Gr) (w : List (List Int)) (i : Nat) : List (List Int) :=
  let e := g.es.getD i default
  mset w e.f.toNat e.t.toNat (min (wa w e.f.toNat e.t.toNat) (g.wt e))
def wayEs (g : Gr) (i : Nat) : List (List Int) := (List.range i).foldl (wayE g) (way0 g.lat.length)
def fw1 (m i : Nat) (w : List (List Int)) (k : Nat) : List (List Int) :=
  if wa w i m < FAR ∧ wa w m k < FAR then mset w i k (max (-FAR) (min (wa w i k) (wa w i m + wa w m k))) else w
def fwK (m i : Nat) (w : List (List Int)) (k : Nat) : List (List Int) := (List.range k).foldl (fw1 m i) w
def fwI (n m : Nat) (w : List (List Int)) (i : Nat) : List (List Int) := (List.range i).foldl (fun w i => fwK m i w n) w
def fwM (g : Gr) (m : Nat) : List (List Int) := (List.range m).foldl (fun w m => fwI g.lat.length m w g.lat.length) (wayEs g g.es.length)
def Gr.short (g : Gr) : Bool := (List.range g.lat.length).any fun i => decide (wa (fwM g g.lat.length) i i ≤ 0)
theorem wayEs_succ (g : Gr) (i : Nat) : wayEs g (i + 1) = wayE g (wayEs g i) i := by simp [wayEs, List.range_succ]
theorem fwK_succ (m i : Nat) (w : List (List Int)) (k : Nat) : fwK m i w (k + 1) = fw1 m i (fwK m i w k) k := by simp [fwK, List.range_succ]
theorem fwI_succ (n m : Nat) (w : List (List Int)) (i : Nat) : fwI n m w (i + 1) = fwK m i (fwI n m w i) n := by simp [fwI, List.range_succ]
theorem fwM_succ (g : Gr) (m : Nat) : fwM g (m + 1) = fwI g.lat.length m (fwM g m) g.lat.length := by simp [fwM, List.range_succ]

/-- What holds of all ways: within bounds. -/
structure Way (n : Nat) (w : List (List Int)) : Prop where
  sq : Sq n w
  lo : ∀ a b, a < n → b < n → -FAR ≤ wa w a b
  hi : ∀ a b, a < n → b < n → wa w a b ≤ FAR
theorem Way.set {n : Nat} {w : List (List Int)} (h : Way n w) {i k : Nat} (hi : i < n) (hk : k < n) {x : Int} (h1 : -FAR ≤ x) (h2 : x ≤ FAR) : Way n (mset w i k x) :=
  ⟨h.sq.mset hi x, fun a b ha hb => by rw [wa_mset h.sq hi hk]; split; exact h1; exact h.lo a b ha hb, fun a b ha hb => by rw [wa_mset h.sq hi hk]; split; exact h2; exact h.hi a b ha hb⟩
theorem way0_at {n a b : Nat} (ha : a < n) (hb : b < n) : wa (way0 n) a b = FAR := by
  simp [way0, wa, List.getD_eq_getElem?_getD, List.getElem?_replicate, ha, hb]
theorem way_way0 (n : Nat) : Way n (way0 n) := by
  refine ⟨⟨by simp [way0], fun i hi => by simp [way0, List.getD_eq_getElem?_getD, List.getElem?_replicate, hi]⟩, fun a b ha hb => ?_, fun a b ha hb => ?_⟩
  · rw [way0_at ha hb]; decide
  · rw [way0_at ha hb]; exact Int.le_refl _

/-! One way round: where no round's step is left, no way is too short. -/
def Pot (g : Gr) (F : Nat → Int) (w : List (List Int)) : Prop := ∀ a b, a < g.lat.length → b < g.lat.length → wa w a b < FAR → F b - F a ≤ (g.nn + 1) * wa w a b - 1
theorem wayE_ok {g : Gr} (h : g.OK) {w : List (List Int)} (hw : Way g.lat.length w) {i : Nat} (hi : i < g.es.length) : Way g.lat.length (wayE g w i) := by
  obtain ⟨hm, hf, ht, _, _⟩ := Gr.edge h hi
  have := g.wt_bd h hm
  unfold wayE
  refine hw.set hf ht ?_ ?_
  · have := hw.lo _ _ hf ht; simp only [FAR] at *; omega
  · have := hw.hi _ _ hf ht; simp only [FAR] at *; omega
theorem wayEs_ok {g : Gr} (h : g.OK) : ∀ i, i ≤ g.es.length → Way g.lat.length (wayEs g i)
  | 0, _ => way_way0 _
  | i + 1, hi => by rw [wayEs_succ]; exact wayE_ok h (wayEs_ok h i (by omega)) (by omega)
theorem fw1_ok {n m i k : Nat} {w : List (List Int)} (hw : Way n w) (hi : i < n) (hk : k < n) : Way n (fw1 m i w k) := by
  unfold fw1
  split
  · refine hw.set hi hk (Int.le_max_left _ _) ?_
    have := hw.hi i k hi hk
    simp only [FAR] at *; omega
  · exact hw
theorem fwK_ok {n m i : Nat} {w : List (List Int)} (hw : Way n w) (hi : i < n) : ∀ k, k ≤ n → Way n (fwK m i w k)
  | 0, _ => hw
  | k + 1, hk => by rw [fwK_succ]; exact fw1_ok (fwK_ok hw hi k (by omega)) hi (by omega)
theorem fwI_ok {n m : Nat} {w : List (List Int)} (hw : Way n w) : ∀ i, i ≤ n → Way n (fwI n m w i)
  | 0, _ => hw
  | i + 1, hi => by rw [fwI_succ]; exact fwK_ok (fwI_ok hw i (by omega)) (by omega) n (Nat.le_refl _)
theorem fwM_ok {g : Gr} (h : g.OK) : ∀ m, Way g.lat.length (fwM g m)
  | 0 => wayEs_ok h _ (Nat.le_refl _)
  | m + 1 => by rw [fwM_succ]; exact fwI_ok (fwM_ok h m) _ (Nat.le_refl _)

theorem pot_E {g : Gr} (h : g.OK) {s : BF} (hq : Quiet g s) {w : List (List Int)} (hw : Way g.lat.length w) (hp : Pot g s.F w) {i : Nat} (hi : i < g.es.length) : Pot g s.F (wayE g w i) := by
  obtain ⟨hm, hf, ht, _, _⟩ := Gr.edge h hi
  intro a b ha hb hl
  unfold wayE at hl ⊢
  rw [wa_mset hw.sq hf ht] at hl ⊢
  split at hl
  · rename_i hc
    rw [if_pos hc]
    obtain ⟨rfl, rfl⟩ := hc
    rcases Int.le_total (wa w (g.es.getD i default).f.toNat (g.es.getD i default).t.toNat) (g.wt (g.es.getD i default)) with h1 | h1
    · rw [Int.min_eq_left h1] at hl ⊢; exact hp _ _ ha hb hl
    · rw [Int.min_eq_right h1]
      have := hq _ hm
      unfold Gr.W at this
      omega
  · rename_i hc
    rw [if_neg hc]
    exact hp a b ha hb hl
theorem pot_1 {g : Gr} {F : Nat → Int} {w : List (List Int)} (hw : Way g.lat.length w) (hp : Pot g F w) {m i k : Nat} (hm : m < g.lat.length) (hi : i < g.lat.length) (hk : k < g.lat.length) : Pot g F (fw1 m i w k) := by
  unfold fw1
  split
  · rename_i hc
    intro a b ha hb hl
    rw [wa_mset hw.sq hi hk] at hl ⊢
    split at hl
    · rename_i hab
      rw [if_pos hab]
      obtain ⟨rfl, rfl⟩ := hab
      have h1 := hp i m hi hm hc.1
      have h2 := hp m k hm hk hc.2
      obtain ⟨z, hz⟩ : ∃ z, min (wa w i k) (wa w i m + wa w m k) = z := ⟨_, rfl⟩
      rw [hz] at hl ⊢
      have h3 : F k - F i ≤ (g.nn + 1) * z - 1 ∨ z = FAR := by
        rcases Int.le_total (wa w i k) (wa w i m + wa w m k) with h4 | h4
        · rw [Int.min_eq_left h4] at hz
          by_cases h5 : wa w i k < FAR
          · left; rw [← hz]; exact hp i k hi hk h5
          · right; have := hw.hi i k hi hk; omega
        · rw [Int.min_eq_right h4] at hz
          left
          rw [← hz, Int.mul_add]
          omega
      rcases h3 with h3 | h3
      · have h4 : (g.nn + 1) * z ≤ (g.nn + 1) * max (-FAR) z := Int.mul_le_mul_of_nonneg_left (Int.le_max_right _ _) (by unfold Gr.nn; omega)
        omega
      · rw [h3] at hl
        simp only [FAR] at hl
        omega
    · rename_i hab
      rw [if_neg hab]
      exact hp a b ha hb hl
  · exact hp
theorem pot_K {g : Gr} {F : Nat → Int} {w : List (List Int)} (hw : Way g.lat.length w) (hp : Pot g F w) {m i : Nat} (hm : m < g.lat.length) (hi : i < g.lat.length) : ∀ k, k ≤ g.lat.length → Pot g F (fwK m i w k)
  | 0, _ => hp
  | k + 1, hk => by rw [fwK_succ]; exact pot_1 (fwK_ok hw hi k (by omega)) (pot_K hw hp hm hi k (by omega)) hm hi (by omega)
theorem pot_I {g : Gr} {F : Nat → Int} {w : List (List Int)} (hw : Way g.lat.length w) (hp : Pot g F w) {m : Nat} (hm : m < g.lat.length) : ∀ i, i ≤ g.lat.length → Pot g F (fwI g.lat.length m w i)
  | 0, _ => hp
  | i + 1, hi => by rw [fwI_succ]; exact pot_K (fwI_ok hw i (by omega)) (pot_I hw hp hm i (by omega)) hm (by omega) _ (Nat.le_refl _)
theorem pot_Es {g : Gr} (h : g.OK) {s : BF} (hq : Quiet g s) : ∀ i, i ≤ g.es.length → Pot g s.F (wayEs g i)
  | 0, _ => fun a b ha hb hl => by
    have : wa (wayEs g 0) a b = FAR := way0_at ha hb
    omega
  | i + 1, hi => by rw [wayEs_succ]; exact pot_E h hq (wayEs_ok h i (by omega)) (pot_Es h hq i (by omega)) (by omega)
theorem pot_M {g : Gr} (h : g.OK) {s : BF} (hq : Quiet g s) : ∀ m, m ≤ g.lat.length → Pot g s.F (fwM g m)
  | 0, _ => pot_Es h hq _ (Nat.le_refl _)
  | m + 1, hm => by rw [fwM_succ]; exact pot_I (fwM_ok h m) (pot_M h hq m (by omega)) (by omega) _ (Nat.le_refl _)
theorem quiet_long {g : Gr} (h : g.OK) {s : BF} (hq : Quiet g s) : g.short = false := by
  cases hs : g.short with
  | false => rfl
  | true =>
    simp only [Gr.short, List.any_eq_true, List.mem_range, decide_eq_true_eq] at hs
    obtain ⟨i, hi, hle⟩ := hs
    have := pot_M h hq g.lat.length (Nat.le_refl _) i i hi hi (by simp only [FAR]; omega)
    have h2 : (g.nn + 1) * wa (fwM g g.lat.length) i i ≤ 0 := Int.mul_nonpos_of_nonneg_of_nonpos (by unfold Gr.nn; omega) hle
    omega

/-! The other way round: a closed way of few edges that is too short is found. -/
inductive Wk (g : Gr) (m : Nat) : Nat → Nat → Nat → Int → Prop
  | edge (e : Edg) (he : e ∈ g.es) : Wk g m e.f.toNat e.t.toNat 1 (g.wt e)
  | comp {i j k l1 l2 : Nat} {s1 s2 : Int} (h1 : Wk g m i j l1 s1) (h2 : Wk g m j k l2 s2) (hj : j < m) : Wk g m i k (l1 + l2) (s1 + s2)
theorem Wk.bd {g : Gr} (h : g.OK) {m i k l : Nat} {s : Int} (w : Wk g m i k l s) : i < g.lat.length ∧ k < g.lat.length ∧ 1 ≤ l ∧ -((l : Int) * 4096) ≤ s ∧ s ≤ (l : Int) * 1048576 := by
  induction w with
  | edge e he =>
    have := g.wt_bd h he
    have := h.es e he
    omega
  | comp h1 h2 hj ih1 ih2 => omega
theorem Wk.up {g : Gr} {m m' : Nat} (hm : m ≤ m') {i k l : Nat} {s : Int} (w : Wk g m i k l s) : Wk g m' i k l s := by
  induction w with
  | edge e he => exact .edge e he
  | comp h1 h2 hj ih1 ih2 => exact .comp ih1 ih2 (by omega)

/-- A way over the nodes up to m: one over the nodes below m, or one to m and one from m; where no way from m to m is too short. -/
theorem Wk.split {g : Gr} {m N : Nat} (hpos : ∀ l s, l ≤ N → Wk g m m m l s → 0 ≤ s) {i k l : Nat} {s : Int} (w : Wk g (m + 1) i k l s) : l ≤ N →
    (∃ l' s', l' ≤ l ∧ s' ≤ s ∧ Wk g m i k l' s') ∨ ∃ l1 s1 l2 s2, l1 + l2 ≤ l ∧ s1 + s2 ≤ s ∧ Wk g m i m l1 s1 ∧ Wk g m m k l2 s2 := by
  induction w with
  | edge e he => intro _; exact .inl ⟨1, _, Nat.le_refl _, Int.le_refl _, .edge e he⟩
  | @comp i j k l1 l2 s1 s2 h1 h2 hj ih1 ih2 =>
    intro hN
    have hl1 : l1 ≤ N := by omega
    have hl2 : l2 ≤ N := by omega
    by_cases hjm : j = m
    · subst hjm
      have A : ∃ l' s', l' ≤ l1 ∧ s' ≤ s1 ∧ Wk g j i j l' s' := by
        rcases ih1 hl1 with h | ⟨a, sa, b, sb, h3, h4, h5, h6⟩
        · exact h
        · have := hpos b sb (by omega) h6
          exact ⟨a, sa, by omega, by omega, h5⟩
      have B : ∃ l' s', l' ≤ l2 ∧ s' ≤ s2 ∧ Wk g j j k l' s' := by
        rcases ih2 hl2 with h | ⟨a, sa, b, sb, h3, h4, h5, h6⟩
        · exact h
        · have := hpos a sa (by omega) h5
          exact ⟨b, sb, by omega, by omega, h6⟩
      obtain ⟨la, sa, h3, h4, h5⟩ := A
      obtain ⟨lb, sb, h6, h7, h8⟩ := B
      exact .inr ⟨la, sa, lb, sb, by omega, by omega, h5, h8⟩
    · have hjl : j < m := by omega
      rcases ih1 hl1 with ⟨la, sa, h3, h4, h5⟩ | ⟨la, sa, lb, sb, h3, h4, h5, h6⟩
      · rcases ih2 hl2 with ⟨lc, sc, h7, h8, h9⟩ | ⟨lc, sc, ld, sd, h7, h8, h9, h10⟩
        · exact .inl ⟨la + lc, sa + sc, by omega, by omega, .comp h5 h9 hjl⟩
        · exact .inr ⟨la + lc, sa + sc, ld, sd, by omega, by omega, .comp h5 h9 hjl, h10⟩
      · rcases ih2 hl2 with ⟨lc, sc, h7, h8, h9⟩ | ⟨lc, sc, ld, sd, h7, h8, h9, h10⟩
        · exact .inr ⟨la, sa, lb + lc, sb + sc, by omega, by omega, h5, .comp h6 h9 hjl⟩
        · have := hpos (lb + lc) (sb + sc) (by omega) (.comp h6 h9 hjl)
          exact .inr ⟨la, sa, ld, sd, by omega, by omega, h5, h10⟩

/-- Later ways are no longer. -/
def Le (n : Nat) (w w' : List (List Int)) : Prop := ∀ a b, a < n → b < n → wa w' a b ≤ wa w a b
def Good (n m : Nat) (w w' : List (List Int)) (i k : Nat) : Prop := wa w i m < FAR → wa w m k < FAR → wa w' i k ≤ max (-FAR) (wa w i m + wa w m k)
theorem fw1_le {n m i k : Nat} {w : List (List Int)} (hw : Way n w) (hi : i < n) (hk : k < n) : Le n w (fw1 m i w k) := by
  intro a b ha hb
  unfold fw1
  split
  · rw [wa_mset hw.sq hi hk]
    split
    · rename_i hc
      obtain ⟨rfl, rfl⟩ := hc
      have := hw.lo i k hi hk
      omega
    · exact Int.le_refl _
  · exact Int.le_refl _
theorem fw1_good {n m i k : Nat} {w0 w : List (List Int)} (hw : Way n w) (hle : Le n w0 w) (hm : m < n) (hi : i < n) (hk : k < n) : Good n m w0 (fw1 m i w k) i k := by
  intro h1 h2
  have h3 := hle i m hi hm
  have h4 := hle m k hm hk
  unfold fw1
  rw [if_pos ⟨by omega, by omega⟩, wa_mset hw.sq hi hk, if_pos ⟨rfl, rfl⟩]
  omega
theorem Le.good {n m : Nat} {w0 w w' : List (List Int)} (h : Le n w w') {i k : Nat} (hi : i < n) (hk : k < n) (hg : Good n m w0 w i k) : Good n m w0 w' i k := fun h1 h2 => Int.le_trans (h i k hi hk) (hg h1 h2)
theorem Le.trans {n : Nat} {a b c : List (List Int)} (h : Le n a b) (k : Le n b c) : Le n a c := fun i j hi hj => Int.le_trans (k i j hi hj) (h i j hi hj)
theorem fwK_good {n m i : Nat} {w0 w : List (List Int)} (hw : Way n w) (hle : Le n w0 w) (hm : m < n) (hi : i < n) : ∀ k, k ≤ n → Le n w (fwK m i w k) ∧ ∀ k', k' < k → Good n m w0 (fwK m i w k) i k'
  | 0, _ => ⟨fun _ _ _ _ => Int.le_refl _, fun k' h => by omega⟩
  | k + 1, hk => by
    obtain ⟨h1, h2⟩ := fwK_good hw hle hm hi k (by omega)
    have hok := fwK_ok (m := m) hw hi k (by omega)
    have h3 := fw1_le (m := m) hok hi (k := k) (by omega)
    rw [fwK_succ]
    refine ⟨h1.trans h3, fun k' hk' => ?_⟩
    by_cases he : k' = k
    · subst he; exact fw1_good hok (hle.trans h1) hm hi (by omega)
    · exact h3.good hi (by omega) (h2 k' (by omega))
theorem fwI_good {n m : Nat} {w : List (List Int)} (hw : Way n w) (hm : m < n) : ∀ i, i ≤ n → Le n w (fwI n m w i) ∧ ∀ i' k', i' < i → k' < n → Good n m w (fwI n m w i) i' k'
  | 0, _ => ⟨fun _ _ _ _ => Int.le_refl _, fun i' k' h => by omega⟩
  | i + 1, hi => by
    obtain ⟨h1, h2⟩ := fwI_good hw hm i (by omega)
    have hok := fwI_ok (m := m) hw i (by omega)
    obtain ⟨h3, h4⟩ := fwK_good (w0 := w) hok h1 hm (i := i) (by omega) n (Nat.le_refl _)
    rw [fwI_succ]
    refine ⟨h1.trans h3, fun i' k' hi' hk' => ?_⟩
    by_cases he : i' = i
    · subst he; exact h4 k' hk'
    · exact h3.good (by omega) hk' (h2 i' k' (by omega) hk')
theorem wayE_le {g : Gr} (h : g.OK) {w : List (List Int)} (hw : Way g.lat.length w) {i : Nat} (hi : i < g.es.length) : Le g.lat.length w (wayE g w i) := by
  obtain ⟨hm, hf, ht, _, _⟩ := Gr.edge h hi
  intro a b ha hb
  unfold wayE
  rw [wa_mset hw.sq hf ht]
  split
  · rename_i hc
    obtain ⟨rfl, rfl⟩ := hc
    exact Int.min_le_left _ _
  · exact Int.le_refl _
theorem wayEs_at {g : Gr} (h : g.OK) : ∀ i, i ≤ g.es.length → ∀ j, j < i → wa (wayEs g i) (g.es.getD j default).f.toNat (g.es.getD j default).t.toNat ≤ g.wt (g.es.getD j default)
  | 0, _, j, hj => by omega
  | i + 1, hi, j, hj => by
    have hok := wayEs_ok h i (by omega)
    rw [wayEs_succ]
    by_cases he : j = i
    · subst he
      obtain ⟨hm, hf, ht, _, _⟩ := Gr.edge h (j := j) (by omega)
      unfold wayE
      rw [wa_mset hok.sq hf ht, if_pos ⟨rfl, rfl⟩]
      exact Int.min_le_right _ _
    · obtain ⟨hm, hf, ht, _, _⟩ := Gr.edge h (j := j) (by omega)
      exact Int.le_trans (wayE_le h hok (by omega) _ _ hf ht) (wayEs_at h i (by omega) j (by omega))
theorem fwM_le {g : Gr} (h : g.OK) (m : Nat) : ∀ d, m + d ≤ g.lat.length → Le g.lat.length (fwM g m) (fwM g (m + d))
  | 0, _ => fun _ _ _ _ => Int.le_refl _
  | d + 1, hd => by
    have := (fwI_good (fwM_ok h (m + d)) (m := m + d) (by omega) g.lat.length (Nat.le_refl _)).1
    rw [← fwM_succ] at this
    exact (fwM_le h m d (by omega)).trans this
theorem fwM_wk {g : Gr} (h : g.OK) (hpos : ∀ i, i < g.lat.length → 0 < wa (fwM g g.lat.length) i i) : ∀ m, m ≤ g.lat.length → ∀ {i k l : Nat} {s : Int}, Wk g m i k l s → l ≤ g.lat.length → wa (fwM g m) i k ≤ s
  | 0, _, i, k, l, s, w, hl => by
    cases w with
    | edge e he =>
      obtain ⟨j, hj, rfl⟩ := List.mem_iff_getElem.1 he
      have := wayEs_at h g.es.length (Nat.le_refl _) j hj
      rw [getD_lt _ _ hj] at this
      exact this
    | comp h1 h2 hj => omega
  | m + 1, hm, i, k, l, s, w, hl => by
    have ih := @fwM_wk g h hpos m (by omega)
    have hw := fwM_ok h m
    obtain ⟨hle, hgd⟩ := fwI_good hw (m := m) (by omega) g.lat.length (Nat.le_refl _)
    rw [← fwM_succ] at hle hgd
    have hbd := w.bd h
    rcases Wk.split (N := g.lat.length) (fun l s hl w => by
      have h1 := ih w hl
      have h2 := fwM_le h m (g.lat.length - m) (by omega) m m (by omega) (by omega)
      rw [show m + (g.lat.length - m) = g.lat.length by omega] at h2
      have h3 := hpos m (by omega)
      omega) w hl with ⟨l', s', h1, h2, h3⟩ | ⟨l1, s1, l2, s2, h1, h2, h3, h4⟩
    · have := ih h3 (by omega)
      have := hle i k hbd.1 hbd.2.1
      omega
    · have a := ih h3 (by omega)
      have b := ih h4 (by omega)
      have ba := h3.bd h
      have bb := h4.bd h
      have hn := h.n
      have := hgd i k hbd.1 hbd.2.1 (by simp only [FAR]; omega) (by simp only [FAR]; omega)
      simp only [FAR] at this
      omega

/-- The cycle that is found, as a closed way. -/
theorem back_wk {g : Gr} (h : g.OK) {s : BF} {x : Nat} (c : Cyc g s x) : ∀ k, 0 < k → ∃ S, Wk g g.lat.length (g.back s k x) x k S ∧ s.F (g.back s k x) + ((g.nn + 1) * S - k) ≤ s.F x
  | 0, hk => by omega
  | k + 1, _ => by
    obtain ⟨hlt, j, hj, hB, ht, hF⟩ := c.way k
    obtain ⟨hm, hf, _, _, _⟩ := Gr.edge h hj
    have hp : g.back s (k + 1) x = (g.es.getD j default).f.toNat := by
      show g.pr s (g.back s k x) = _
      unfold Gr.pr; rw [hB]; simp
    have hW : g.W (g.es.getD j default) = (g.nn + 1) * g.wt (g.es.getD j default) - 1 := rfl
    have hE := Wk.edge (m := g.lat.length) _ hm
    rw [ht] at hE
    rw [hp]
    by_cases hk0 : k = 0
    · subst hk0
      refine ⟨_, hE, ?_⟩
      have : g.back s 0 x = x := rfl
      rw [this] at hF
      omega
    · obtain ⟨S, h1, h2⟩ := back_wk h c k (by omega)
      refine ⟨g.wt (g.es.getD j default) + S, by rw [Nat.add_comm k 1]; exact .comp hE h1 hlt, ?_⟩
      rw [Int.mul_add]
      omega
theorem cyc_short {g : Gr} (h : g.OK) {s : BF} {x : Nat} (c : Cyc g s x) : g.short = true := by
  obtain ⟨k, hk0, hkn, hkx⟩ := c.per
  obtain ⟨S, h1, h2⟩ := back_wk h c k hk0
  rw [hkx] at h1 h2
  have hS : S ≤ 0 := by
    refine Classical.byContradiction fun hS => ?_
    have : (g.nn + 1) * 1 ≤ (g.nn + 1) * S := Int.mul_le_mul_of_nonneg_left (by omega) (by unfold Gr.nn; omega)
    unfold Gr.nn at *
    omega
  cases hs : g.short with
  | true => rfl
  | false =>
    simp only [Gr.short, List.any_eq_false, List.mem_range, decide_eq_true_eq] at hs
    have := fwM_wk h (fun i hi => by have := hs i hi; omega) g.lat.length (Nat.le_refl _) h1 hkn
    have := hs x (h1.bd h).1
    omega

/-- **The rounds end in silence just where no cycle is too short.** -/
theorem run_short {g : Gr} (h : g.OK) : (g.run.last = -1 ∧ g.short = false ∧ Quiet g g.run) ∨ ∃ v : Nat, g.run.last = (v : Int) ∧ v < g.lat.length ∧ g.short = true ∧ (∀ k, OnWay g g.run (g.back g.run k v)) ∧ Cyc g g.run (g.back g.run (g.lat.length + 1) v) := by
  rcases run_end h with ⟨h1, h2⟩ | ⟨st, I, v, hv, hl, hst⟩
  · exact .inl ⟨h1, quiet_long h h2, h2⟩
  · obtain ⟨h3, h4⟩ := cycle_of h I hv hst
    exact .inr ⟨v, hl, hv, cyc_short h h4, h3, h4⟩

end Go.Proofs.Ytcnikeonaklkoaa
