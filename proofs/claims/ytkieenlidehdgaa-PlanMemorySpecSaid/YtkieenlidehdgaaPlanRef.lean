/- The reference's ways to the least positions and to the plan of least memory, in plain Lean. No program in sight. -/
import Derived.Test.YtkieenlidehdgaaPlan10F
namespace Go.Proofs.Ytkieenlidehdgaa
set_option linter.unusedVariables false
set_option linter.unusedSimpArgs false

/-! The least positions, by raising. -/
def rl (g : Gr) (s : List Int × Bool) (i : Nat) : List Int × Bool := if g.sl (fn s.1) i < 0 then (s.1.set (g.ed i).t.toNat (s.1.getD (g.ed i).t.toNat 0 - g.sl (fn s.1) i), true) else s
def rlTo (g : Gr) (l : List Int) (i : Nat) : List Int × Bool := (List.range i).foldl (rl g) (l, false)
theorem rlTo_succ (g : Gr) (l : List Int) (i : Nat) : rlTo g l (i + 1) = rl g (rlTo g l i) i := by simp [rlTo, List.range_succ]
structure Under (g : Gr) (l : List Int) : Prop where
  len : l.length = g.lat.length
  bd : ∀ v, v < g.lat.length → 0 ≤ fn l v ∧ fn l v ≤ fn g.low v
theorem sm_set1 {m : Nat} {l : List Int} {j : Nat} {x : Int} (hl : l.length = m) (hj : j < m) : sm m (fn (l.set j x)) = sm m (fn l) + (x - fn l j) := by
  have h := sm_set (x := x) hl hj fun _ => 1
  have e : ∀ f : Nat → Int, sm m (fun i => f i * 1) = sm m f := fun f => sm_eq fun i _ => Int.mul_one _
  rw [e, e, Int.mul_one] at h
  exact h
theorem rl_step {g : Gr} (hok : g.OK) (hs : g.short = false) {l : List Int} (hu : Under g l) : ∀ i, i ≤ g.es.length →
    Under g (rlTo g l i).1 ∧ ((rlTo g l i).2 = false → (rlTo g l i).1 = l ∧ ∀ j, j < i → 0 ≤ g.sl (fn l) j) ∧ ((rlTo g l i).2 = true → sm g.lat.length (fn l) + 1 ≤ sm g.lat.length (fn (rlTo g l i).1)) ∧ sm g.lat.length (fn l) ≤ sm g.lat.length (fn (rlTo g l i).1)
  | 0, _ => ⟨hu, fun _ => ⟨rfl, fun j h => by omega⟩, (fun h => by cases h), Int.le_refl _⟩
  | i + 1, hi => by
    obtain ⟨h1, h2, h3, h4⟩ := rl_step hok hs hu i (by omega)
    rw [rlTo_succ]
    obtain ⟨s, hse⟩ : ∃ s, rlTo g l i = s := ⟨_, rfl⟩
    rw [hse] at h1 h2 h3 h4 ⊢
    unfold rl
    have he := Gr.edge_mem hok (e := g.ed i) (Gr.edge hok (by omega)).1
    have hlo := (low_spec hok hs).feas.sl i (by omega)
    have hb1 := h1.bd _ he.2.1
    have hb2 := h1.bd _ he.2.2.2.1
    by_cases hn : g.sl (fn s.1) i < 0
    · rw [if_pos hn]
      have hlen := h1.len
      have hv : s.1.getD (g.ed i).t.toNat 0 - g.sl (fn s.1) i = fn s.1 (g.ed i).f.toNat + g.lat.getD (g.ed i).f.toNat 0 - (g.ed i).d := by unfold Gr.sl fn; omega
      have hsum := sm_set1 (x := s.1.getD (g.ed i).t.toNat 0 - g.sl (fn s.1) i) hlen he.2.2.2.1
      refine ⟨⟨by simpa using hlen, fun v hv' => ?_⟩, (fun h => by cases h), fun _ => ?_, ?_⟩
      · show 0 ≤ (s.1.set _ _).getD v 0 ∧ (s.1.set _ _).getD v 0 ≤ _
        rw [getD_set (by rw [hlen]; exact he.2.2.2.1)]
        by_cases e : (g.ed i).t.toNat = v
        · rw [if_pos e, ← e]
          have hlo2 : 0 ≤ fn g.low (g.ed i).t.toNat + (g.ed i).d - fn g.low (g.ed i).f.toNat - g.lat.getD (g.ed i).f.toNat 0 := hlo
          have hv2 : s.1.getD (g.ed i).t.toNat 0 - g.sl (fn s.1) i = fn s.1 (g.ed i).t.toNat - g.sl (fn s.1) i := rfl
          rw [hv2] at hv ⊢
          generalize g.sl (fn s.1) i = z at *
          omega
        · rw [if_neg e]; exact h1.bd v hv'
      · rw [hsum]
        show _ ≤ _ + (s.1.getD (g.ed i).t.toNat 0 - g.sl (fn s.1) i - s.1.getD (g.ed i).t.toNat 0)
        omega
      · rw [hsum]
        show _ ≤ _ + (s.1.getD (g.ed i).t.toNat 0 - g.sl (fn s.1) i - s.1.getD (g.ed i).t.toNat 0)
        omega
    · rw [if_neg hn]
      refine ⟨h1, fun h => ?_, h3, h4⟩
      obtain ⟨a, b⟩ := h2 h
      refine ⟨a, fun j hj => ?_⟩
      by_cases e : j = i
      · subst e; rw [← a]; omega
      · exact b j (by omega)
theorem under_low {g : Gr} (hok : g.OK) (hs : g.short = false) {l : List Int} (hu : Under g l) (hf : ∀ i, i < g.es.length → 0 ≤ g.sl (fn l) i) : l = g.low := by
  have hl := low_spec hok hs
  refine ext_fn (hu.len.trans hl.len.symm) fun k hk => ?_
  have hk : k < g.lat.length := by rw [← hu.len]; exact hk
  have h1 := (hu.bd k hk).2
  have h2 := hl.least (fn l) ⟨fun v hv => (hu.bd v hv).1, hf⟩ k hk
  omega
theorem under_zero {g : Gr} (hok : g.OK) (hs : g.short = false) : Under g (List.replicate g.lat.length 0) := ⟨by simp, fun v hv => by
  have h := (low_spec hok hs).feas.pos v hv
  have e : fn (List.replicate g.lat.length 0) v = 0 := by unfold fn; rw [getD_lt _ _ (by simpa using hv)]; simp
  rw [e]; exact ⟨Int.le_refl _, h⟩⟩
theorem under_sum {g : Gr} {l : List Int} (hu : Under g l) : sm g.lat.length (fn l) ≤ sm g.lat.length (fn g.low) := sm_le fun v hv => (hu.bd v hv).2

/-! Sets. -/
def setOf (q : Nat → Bool) : Nat → Nat
  | 0 => 0
  | n + 1 => setOf q n + if q n then 2 ^ n else 0
theorem setOf_lt (q : Nat → Bool) (n : Nat) : setOf q n < 2 ^ n := by
  induction n with
  | zero => exact Nat.one_pos
  | succ n ih =>
    have h : setOf q (n + 1) = setOf q n + if q n then 2 ^ n else 0 := rfl
    rw [h, Nat.pow_succ]; split <;> omega
theorem inS_bit (s v : Nat) : inS s v = s.testBit v := by
  rw [Nat.testBit_eq_decide_div_mod_eq]; rfl
theorem setOf_in (q : Nat → Bool) : ∀ n v, v < n → inS (setOf q n) v = q v
  | 0, v, h => by omega
  | n + 1, v, h => by
    have e : setOf q (n + 1) = setOf q n + if q n then 2 ^ n else 0 := rfl
    rw [e, inS_bit]
    by_cases hv : v = n
    · subst hv
      cases hq : q v with
      | true =>
        rw [if_pos rfl, Nat.add_comm, Nat.testBit_two_pow_add_eq]
        rw [Nat.testBit_lt_two_pow (setOf_lt q v)]; rfl
      | false =>
        rw [if_neg (by decide), Nat.add_zero, Nat.testBit_lt_two_pow (setOf_lt q v)]
    · have ih := setOf_in q n v (by omega)
      rw [inS_bit] at ih
      split
      · rw [Nat.add_comm, Nat.testBit_two_pow_add_gt (by omega)]; exact ih
      · exact ih
theorem setOf_pos {q : Nat → Bool} {n v : Nat} (hv : v < n) (h : q v = true) : 0 < setOf q n := by
  rcases Nat.eq_zero_or_pos (setOf q n) with e | e
  · have := setOf_in q n v hv
    rw [e, h, inS_bit, Nat.zero_testBit] at this
    cases this
  · exact e
theorem sizeTo_lt {s t : Nat} : ∀ {n : Nat}, (∀ v, v < n → inS t v = true → inS s v = true) → ((∃ v, v < n ∧ inS s v = true ∧ inS t v = false) → sizeTo t n < sizeTo s n) ∧ sizeTo t n ≤ sizeTo s n
  | 0, _ => ⟨fun ⟨v, h, _⟩ => by omega, Nat.le_refl _⟩
  | n + 1, h => by
    obtain ⟨a, b⟩ := sizeTo_lt (n := n) fun v hv => h v (by omega)
    rw [sizeTo_succ, sizeTo_succ]
    have hn := h n (by omega)
    cases ht : inS t n with
    | true =>
      rw [if_pos rfl, if_pos (hn ht)]
      refine ⟨fun ⟨v, hv, h1, h2⟩ => ?_, by omega⟩
      by_cases e : v = n
      · subst e; rw [ht] at h2; cases h2
      · have := a ⟨v, by omega, h1, h2⟩; omega
    | false =>
      rw [if_neg (by decide)]
      refine ⟨fun ⟨v, hv, h1, h2⟩ => ?_, by split <;> omega⟩
      by_cases e : v = n
      · subst e; rw [if_pos h1]; omega
      · have := a ⟨v, by omega, h1, h2⟩; split <;> omega

/-! The best set. -/
abbrev Gr.F (g : Gr) (l : List Int) : Int := g.memTo l g.es.length
def bst (g : Gr) (l : List Int) (s : Nat × Int) (t : Nat) : Nat × Int :=
  if g.posB (raiseS l t) = true then (if g.F (raiseS l t) < s.2 ∨ (g.F (raiseS l t) = s.2 ∧ 0 < s.1 ∧ sizeTo t l.length < sizeTo s.1 l.length) then (t, g.F (raiseS l t)) else s) else s
def bstTo (g : Gr) (l : List Int) (k : Nat) : Nat × Int := (List.range k).foldl (fun s i => bst g l s (i + 1)) (0, g.F l)
theorem bstTo_succ (g : Gr) (l : List Int) (k : Nat) : bstTo g l (k + 1) = bst g l (bstTo g l k) (k + 1) := by simp [bstTo, List.range_succ]
structure BInv (g : Gr) (l : List Int) (k : Nat) (s : Nat × Int) : Prop where
  cur : (s.1 = 0 ∧ s.2 = g.F l) ∨ (0 < s.1 ∧ s.1 ≤ k ∧ g.posB (raiseS l s.1) = true ∧ s.2 = g.F (raiseS l s.1) ∧ s.2 < g.F l)
  min : ∀ t, 0 < t → t ≤ k → g.posB (raiseS l t) = true → s.2 ≤ g.F (raiseS l t) ∧ (g.F (raiseS l t) = s.2 → 0 < s.1 → sizeTo s.1 l.length ≤ sizeTo t l.length)
theorem binv (g : Gr) (l : List Int) : ∀ k, BInv g l k (bstTo g l k)
  | 0 => ⟨.inl ⟨rfl, rfl⟩, fun t h1 h2 => by omega⟩
  | k + 1 => by
    have I := binv g l k
    rw [bstTo_succ]
    obtain ⟨s, hs⟩ : ∃ s, bstTo g l k = s := ⟨_, rfl⟩
    rw [hs] at I ⊢
    have hc : s.2 ≤ g.F l := by rcases I.cur with ⟨_, h⟩ | ⟨_, _, _, _, h⟩ <;> omega
    unfold bst
    by_cases hp : g.posB (raiseS l (k + 1)) = true
    · rw [if_pos hp]
      by_cases hu : g.F (raiseS l (k + 1)) < s.2 ∨ (g.F (raiseS l (k + 1)) = s.2 ∧ 0 < s.1 ∧ sizeTo (k + 1) l.length < sizeTo s.1 l.length)
      · rw [if_pos hu]
        refine ⟨.inr ⟨by show 0 < k + 1; omega, Nat.le_refl _, hp, rfl, ?_⟩, fun t h1 h2 h3 => ?_⟩
        · show g.F (raiseS l (k + 1)) < _
          rcases hu with hu | ⟨hu, h0, _⟩
          · omega
          · rcases I.cur with ⟨h, _⟩ | ⟨_, _, _, _, h⟩
            · omega
            · omega
        · show g.F (raiseS l (k + 1)) ≤ _ ∧ (_ = g.F (raiseS l (k + 1)) → 0 < k + 1 → sizeTo (k + 1) l.length ≤ _)
          by_cases e : t = k + 1
          · subst e; exact ⟨Int.le_refl _, fun _ _ => Nat.le_refl _⟩
          · obtain ⟨m1, m2⟩ := I.min t h1 (by omega) h3
            rcases hu with hu | ⟨hu, h0, hsz⟩
            · exact ⟨by omega, fun h => by omega⟩
            · exact ⟨by omega, fun h _ => by have := m2 (by omega) h0; omega⟩
      · rw [if_neg hu]
        refine ⟨?_, fun t h1 h2 h3 => ?_⟩
        · rcases I.cur with h | ⟨a, b, c, d, e⟩
          · exact .inl h
          · exact .inr ⟨a, by omega, c, d, e⟩
        · by_cases e : t = k + 1
          · subst e
            refine ⟨?_, fun h h0 => ?_⟩
            · by_cases h : g.F (raiseS l (k + 1)) < s.2
              · exact absurd (.inl h) hu
              · omega
            · by_cases h' : sizeTo (k + 1) l.length < sizeTo s.1 l.length
              · exact absurd (.inr ⟨h, h0, h'⟩) hu
              · omega
          · exact I.min t h1 (by omega) h3
    · rw [if_neg hp]
      refine ⟨?_, fun t h1 h2 h3 => ?_⟩
      · rcases I.cur with h | ⟨a, b, c, d, e⟩
        · exact .inl h
        · exact .inr ⟨a, by omega, c, d, e⟩
      · by_cases e : t = k + 1
        · subst e; exact absurd h3 hp
        · exact I.min t h1 (by omega) h3

/-! Raised positions stay below the best ones; and where none is better, they are there. -/
theorem raise_at {l : List Int} {s v : Nat} (hv : v < l.length) : fn (raiseS l s) v = fn l v + if inS s v = true then 1 else 0 := by
  show (raiseTo l s l.length).getD v 0 = _
  rw [raiseTo_at l s l.length hv]
  by_cases h : inS s v = true
  · rw [if_pos h, if_pos ⟨hv, h⟩]
  · rw [if_neg h, if_neg (fun h2 => h h2.2)]
theorem F_mem (g : Gr) (l : List Int) : g.F l = g.mem (fn l) := rfl
theorem mem_congr {g : Gr} (hok : g.OK) {p q : Nat → Int} (h : ∀ v, v < g.lat.length → p v = q v) : g.mem p = g.mem q := sm_eq fun i hi => by
  have he := Gr.edge_mem hok (e := g.ed i) (Gr.edge hok hi).1
  unfold Gr.sl
  rw [h _ he.2.2.2.1, h _ he.2.1]
theorem feas_congr {g : Gr} (hok : g.OK) {p q : Nat → Int} (h : ∀ v, v < g.lat.length → p v = q v) (hp : Feas g p) : Feas g q := ⟨fun v hv => by rw [← h v hv]; exact hp.pos v hv, fun i hi => by
  have he := Gr.edge_mem hok (e := g.ed i) (Gr.edge hok hi).1
  have := hp.sl i hi
  unfold Gr.sl at *
  rw [← h _ he.2.2.2.1, ← h _ he.2.1]; exact this⟩
/-- Two positions, one of them shifted: the lesser and the greater ones. -/
theorem mem_mix {g : Gr} {p q : Nat → Int} {c : Int} : g.mem (fun v => min (p v) (q v + c)) + g.mem (fun v => max (p v - c) (q v)) = g.mem p + g.mem q := by
  unfold Gr.mem
  rw [← sm_add, ← sm_add]
  refine sm_eq fun i hi => ?_
  rw [← Int.add_mul, ← Int.add_mul]
  congr 1
  unfold Gr.sl
  dsimp only
  omega
theorem sl_min {g : Gr} {p q : Nat → Int} {c : Int} {i : Nat} (h1 : 0 ≤ g.sl p i) (h2 : 0 ≤ g.sl q i) : 0 ≤ g.sl (fun v => min (p v) (q v + c)) i ∧ 0 ≤ g.sl (fun v => max (p v - c) (q v)) i := by
  unfold Gr.sl at *
  dsimp only
  omega
/-- A set of nodes, raised, is better, as long as the best positions are not reached. -/
theorem up_better {g : Gr} (hok : g.OK) {b l : List Int} (hb : Best g b) (hl : l.length = g.lat.length) (hf : Feas g (fn l)) (hle : ∀ v, v < g.lat.length → fn l v ≤ fn b v) (hne : ∃ v, v < g.lat.length ∧ fn l v < fn b v) :
    ∃ t, 0 < t ∧ t < 2 ^ g.lat.length ∧ Feas g (fn (raiseS l t)) ∧ (∀ v, v < g.lat.length → fn (raiseS l t) v ≤ fn b v) ∧ g.F (raiseS l t) < g.F l := by
  obtain ⟨D, hD1, hD2, v0, hv0, hD3⟩ : ∃ D : Int, 1 ≤ D ∧ (∀ v, v < g.lat.length → fn b v - fn l v ≤ D) ∧ ∃ v, v < g.lat.length ∧ fn b v - fn l v = D := by
    have key : ∀ n, n ≤ g.lat.length → (∃ v, v < n ∧ fn l v < fn b v) → ∃ D : Int, 1 ≤ D ∧ (∀ v, v < n → fn b v - fn l v ≤ D) ∧ ∃ v, v < n ∧ fn b v - fn l v = D := by
      intro n
      induction n with
      | zero => rintro _ ⟨v, h, _⟩; omega
      | succ n ih =>
        rintro hn ⟨v, hv, hlt⟩
        by_cases hx : ∃ v, v < n ∧ fn l v < fn b v
        · obtain ⟨D, h1, h2, u, hu, h3⟩ := ih (by omega) hx
          by_cases h4 : fn b n - fn l n ≤ D
          · exact ⟨D, h1, fun v hv => by by_cases e : v = n; (subst e; exact h4); exact h2 v (by omega), u, by omega, h3⟩
          · exact ⟨fn b n - fn l n, by omega, fun v hv => by by_cases e : v = n; (subst e; exact Int.le_refl _); have := h2 v (by omega); omega, n, by omega, rfl⟩
        · have e : v = n := by
            rcases Nat.lt_or_ge v n with h | h
            · exact absurd ⟨v, h, hlt⟩ hx
            · omega
          subst e
          refine ⟨fn b v - fn l v, by omega, fun u hu => ?_, v, by omega, rfl⟩
          by_cases e : u = v
          · subst e; exact Int.le_refl _
          · have : ¬ fn l u < fn b u := fun h => hx ⟨u, by omega, h⟩
            omega
    exact key _ (Nat.le_refl _) hne
  let q : Nat → Bool := fun v => decide (fn b v - fn l v = D)
  have hin : ∀ v, v < g.lat.length → inS (setOf q g.lat.length) v = q v := fun v hv => setOf_in q _ v hv
  have hup : ∀ v, v < g.lat.length → max (fn b v - (D - 1)) (fn l v) = fn (raiseS l (setOf q g.lat.length)) v := fun v hv => by
    rw [raise_at (by omega), hin v hv]
    have h1 := hD2 v hv
    by_cases h : fn b v - fn l v = D
    · rw [if_pos (decide_eq_true h)]; omega
    · rw [if_neg (by show ¬ decide (fn b v - fn l v = D) = true; rw [decide_eq_false h]; decide)]; omega
  have hdn : ∀ v, v < g.lat.length → min (fn b v) (fn l v + (D - 1)) = fn b v - if q v = true then 1 else 0 := fun v hv => by
    have h1 := hD2 v hv
    by_cases h : fn b v - fn l v = D
    · rw [if_pos (decide_eq_true h)]; omega
    · rw [if_neg (by show ¬ decide (fn b v - fn l v = D) = true; rw [decide_eq_false h]; decide)]; omega
  have hmix := mem_mix (g := g) (p := fn b) (q := fn l) (c := D - 1)
  have hF1 : Feas g (fun v => min (fn b v) (fn l v + (D - 1))) := ⟨fun v hv => by
    have h1 := hb.feas.pos v hv
    have h2 := hf.pos v hv
    show 0 ≤ min _ _
    omega, fun i hi => (sl_min (hb.feas.sl i hi) (hf.sl i hi)).1⟩
  have hF2 : Feas g (fun v => max (fn b v - (D - 1)) (fn l v)) := ⟨fun v hv => by
    have h2 := hf.pos v hv
    show 0 ≤ max _ _
    omega, fun i hi => (sl_min (hb.feas.sl i hi) (hf.sl i hi)).2⟩
  refine ⟨setOf q g.lat.length, setOf_pos hv0 (decide_eq_true hD3), setOf_lt q _, feas_congr hok hup hF2, fun v hv => ?_, ?_⟩
  · rw [← hup v hv]
    have := hle v hv
    omega
  · rw [F_mem, F_mem, ← mem_congr hok hup]
    have h1 := hb.min _ hF1
    have h2 : g.mem (fun v => min (fn b v) (fn l v + (D - 1))) ≠ g.mem (fn b) := fun e => by
      have := hb.least _ hF1 e v0 hv0
      have h3 := hdn v0 hv0
      rw [if_pos (decide_eq_true hD3)] at h3
      have this : fn b v0 ≤ min (fn b v0) (fn l v0 + (D - 1)) := this
      omega
    omega
structure Mid (g : Gr) (l : List Int) : Prop where
  len : l.length = g.lat.length
  feas : Feas g (fn l)
  le : ∀ v, v < g.lat.length → fn l v ≤ fn g.best v
theorem mid_posB {g : Gr} (hok : g.OK) (hs : g.short = false) (ht : g.Tiny) {l : List Int} (h : Mid g l) : g.posB l = true := by
  have hb := best_posB hok hs ht
  exact posB_of h.len h.feas fun v hv => Int.le_trans (h.le v hv) ((posB_iff hb).2.2 v hv)
theorem raiseS_length (l : List Int) (s : Nat) : (raiseS l s).length = l.length := raiseTo_length l s l.length
/-- What the search for a set comes to. -/
theorem bst_end {g : Gr} (hok : g.OK) (hs : g.short = false) (ht : g.Tiny) {l : List Int} (h : Mid g l) : ((bstTo g l (2 ^ l.length - 1)).1 = 0 → l = g.best) ∧
    (0 < (bstTo g l (2 ^ l.length - 1)).1 → Mid g (raiseS l (bstTo g l (2 ^ l.length - 1)).1) ∧ sm g.lat.length (fn l) + 1 ≤ sm g.lat.length (fn (raiseS l (bstTo g l (2 ^ l.length - 1)).1))) := by
  obtain ⟨_, _, hb⟩ := best_mk hok hs
  have I := binv g l (2 ^ l.length - 1)
  obtain ⟨s, hse⟩ : ∃ s, bstTo g l (2 ^ l.length - 1) = s := ⟨_, rfl⟩
  rw [hse] at I ⊢
  have hpw : 0 < 2 ^ l.length := Nat.two_pow_pos _
  have hpb : ∀ t, Feas g (fn (raiseS l t)) → (∀ v, v < g.lat.length → fn (raiseS l t) v ≤ fn g.best v) → g.posB (raiseS l t) = true := fun t h1 h2 => mid_posB hok hs ht ⟨by rw [raiseS_length]; exact h.len, h1, h2⟩
  constructor
  · intro h0
    refine Classical.byContradiction fun hne => ?_
    have hx : ∃ v, v < g.lat.length ∧ fn l v < fn g.best v := Classical.byContradiction fun hno => hne (ext_fn (h.len.trans hb.len.symm) fun k hk => by
      have h1 := h.le k (by rw [← h.len]; exact hk)
      have h2 : ¬ fn l k < fn g.best k := fun h3 => hno ⟨k, by rw [← h.len]; exact hk, h3⟩
      omega)
    obtain ⟨t, t1, t2, t3, t4, t5⟩ := up_better hok hb h.len h.feas h.le hx
    have hm := (I.min t t1 (by rw [h.len]; omega) (hpb t t3 t4)).1
    rcases I.cur with ⟨_, h2⟩ | ⟨h2, _⟩
    · omega
    · omega
  · intro h0
    rcases I.cur with ⟨h2, _⟩ | ⟨_, hk, hp, hF, hlt⟩
    · omega
    · obtain ⟨hpl, hpf, _⟩ := posB_iff hp
      have hmix := mem_mix (g := g) (p := fn (raiseS l s.1)) (q := fn g.best) (c := 0)
      have hM : Feas g (fun v => min (fn (raiseS l s.1) v) (fn g.best v + 0)) := ⟨fun v hv => by
        have h1 := hpf.pos v hv
        have h2 := hb.feas.pos v hv
        show 0 ≤ min _ _
        omega, fun i hi => (sl_min (hpf.sl i hi) (hb.feas.sl i hi)).1⟩
      have hX : Feas g (fun v => max (fn (raiseS l s.1) v - 0) (fn g.best v)) := ⟨fun v hv => by
        have h2 := hb.feas.pos v hv
        show 0 ≤ max _ _
        omega, fun i hi => (sl_min (hpf.sl i hi) (hb.feas.sl i hi)).2⟩
      have hXm := hb.min _ hX
      have hle : ∀ v, v < g.lat.length → fn (raiseS l s.1) v ≤ fn g.best v := by
        refine Classical.byContradiction fun hno => ?_
        obtain ⟨v1, hv1, hgt⟩ : ∃ v, v < g.lat.length ∧ fn g.best v < fn (raiseS l s.1) v := Classical.byContradiction fun hn => hno fun v hv => by
          have : ¬ fn g.best v < fn (raiseS l s.1) v := fun h3 => hn ⟨v, hv, h3⟩
          omega
        let q : Nat → Bool := fun v => inS s.1 v && decide (fn l v < fn g.best v)
        have hin : ∀ v, v < g.lat.length → inS (setOf q g.lat.length) v = q v := fun v hv => setOf_in q _ v hv
        have hmin : ∀ v, v < g.lat.length → min (fn (raiseS l s.1) v) (fn g.best v + 0) = fn (raiseS l (setOf q g.lat.length)) v := fun v hv => by
          rw [raise_at (by rw [h.len]; exact hv), raise_at (by rw [h.len]; exact hv), hin v hv]
          have h1 := h.le v hv
          by_cases h2 : inS s.1 v = true
          · by_cases h3 : fn l v < fn g.best v
            · rw [if_pos h2, if_pos (by show (inS s.1 v && decide (fn l v < fn g.best v)) = true; rw [h2, decide_eq_true h3]; rfl)]; omega
            · rw [if_pos h2, if_neg (by show ¬ (inS s.1 v && decide (fn l v < fn g.best v)) = true; rw [decide_eq_false h3, Bool.and_false]; decide)]; omega
          · rw [if_neg h2, if_neg (by show ¬ (inS s.1 v && decide (fn l v < fn g.best v)) = true; rw [show inS s.1 v = false by simpa using h2, Bool.false_and]; decide)]; omega
        have hF' : g.F (raiseS l (setOf q g.lat.length)) ≤ s.2 := by
          rw [hF, F_mem, F_mem, ← mem_congr hok hmin]
          omega
        have hv1s : inS s.1 v1 = true ∧ inS (setOf q g.lat.length) v1 = false := by
          have h1 := h.le v1 hv1
          rw [raise_at (by rw [h.len]; exact hv1)] at hgt
          by_cases h2 : inS s.1 v1 = true
          · rw [if_pos h2] at hgt
            exact ⟨h2, by rw [hin v1 hv1]; show (inS s.1 v1 && decide (fn l v1 < fn g.best v1)) = false; rw [decide_eq_false (by omega), Bool.and_false]⟩
          · rw [if_neg h2] at hgt; omega
        have hsz := (sizeTo_lt (s := s.1) (t := setOf q g.lat.length) (n := g.lat.length) fun v hv hq => by
          rw [hin v hv] at hq
          simp only [q, Bool.and_eq_true] at hq
          exact hq.1).1 ⟨v1, hv1, hv1s⟩
        rcases Nat.eq_zero_or_pos (setOf q g.lat.length) with he | he
        · have e2 : g.F (raiseS l (setOf q g.lat.length)) = g.F l := by
            rw [F_mem, F_mem]
            refine mem_congr hok fun v hv => ?_
            rw [raise_at (by rw [h.len]; exact hv), he, inS_bit, Nat.zero_testBit, if_neg (by decide), Int.add_zero]
          omega
        · obtain ⟨m1, m2⟩ := I.min _ he (by have := setOf_lt q g.lat.length; rw [h.len]; omega) (hpb _ (feas_congr hok hmin hM) fun v hv => by rw [← hmin v hv]; omega)
          have := m2 (by omega) h0
          rw [h.len] at this
          omega
      refine ⟨⟨by rw [raiseS_length]; exact h.len, hpf, hle⟩, ?_⟩
      have hsome : ∃ v, v < g.lat.length ∧ inS s.1 v = true := Classical.byContradiction fun hno => by
        have e2 : g.F (raiseS l s.1) = g.F l := by
          rw [F_mem, F_mem]
          refine mem_congr hok fun v hv => ?_
          rw [raise_at (by rw [h.len]; exact hv), if_neg (fun h3 => hno ⟨v, hv, h3⟩), Int.add_zero]
        omega
      obtain ⟨v, hv, hvs⟩ := hsome
      have h1 := sm_one (m := g.lat.length) (f := fun v => fn (raiseS l s.1) v - fn l v) (fun u hu => by
        rw [raise_at (by rw [h.len]; exact hu)]; split <;> omega) hv
      have h2 : sm g.lat.length (fn (raiseS l s.1)) = sm g.lat.length (fn l) + sm g.lat.length (fun v => fn (raiseS l s.1) v - fn l v) := by
        rw [← sm_add]
        exact sm_eq fun u hu => by omega
      have h1 : fn (raiseS l s.1) v - fn l v ≤ _ := h1
      rw [raise_at (by rw [h.len]; exact hv), if_pos hvs] at h1
      omega

end Go.Proofs.Ytkieenlidehdgaa
