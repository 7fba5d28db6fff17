/- Cycles given as lists of edges; positions that show that none is too short. No program in sight. -/
import Derived.Test.YtcnikeonaklkoaaReach
namespace Go.Proofs.Ytcnikeonaklkoaa
set_option linter.unusedVariables false
set_option linter.unusedSimpArgs false

abbrev Gr.eAt (g : Gr) (x : Int) : Edg := g.es.getD x.toNat default
def Gr.inE (g : Gr) (x : Int) : Bool := decide (0 ≤ x) && decide (x < g.es.length)
abbrev nxt (l : List Int) (i : Nat) : Nat := (i + 1) % l.length
def Gr.firstAt (g : Gr) (l : List Int) (i j : Nat) : Bool := (List.range j).all fun k => !decide ((g.eAt (l.getD k 0)).f = (g.eAt (l.getD i 0)).f)
def Gr.cycAt (g : Gr) (l : List Int) (i : Nat) : Bool := g.inE (l.getD i 0) && (g.inE (l.getD (nxt l i) 0) && (decide ((g.eAt (l.getD (nxt l i) 0)).f = (g.eAt (l.getD i 0)).t) && g.firstAt l i i))
def Gr.sumL (g : Gr) : List Int → Int
  | [] => 0
  | x :: r => g.wt (g.eAt x) + g.sumL r
theorem sumL_app (g : Gr) : ∀ a b : List Int, g.sumL (a ++ b) = g.sumL a + g.sumL b
  | [], b => by simp [Gr.sumL]
  | x :: a, b => by simp only [List.cons_append, Gr.sumL, sumL_app g a b]; omega
theorem sumL_rev (g : Gr) : ∀ a : List Int, g.sumL a.reverse = g.sumL a
  | [] => rfl
  | x :: a => by rw [List.reverse_cons, sumL_app, sumL_rev g a]; simp only [Gr.sumL]; omega
def Gr.sumTo (g : Gr) (l : List Int) (i : Nat) : Int := g.sumL (l.take i)
theorem sumTo_succ (g : Gr) {l : List Int} {i : Nat} (h : i < l.length) : g.sumTo l (i + 1) = g.sumTo l i + g.wt (g.eAt (l.getD i 0)) := by
  unfold Gr.sumTo
  rw [List.take_add_one, List.getElem?_eq_getElem h, sumL_app, getD_lt _ _ h]
  simp [Gr.sumL]
def Gr.cycleP (g : Gr) (l : List Int) : Bool × Bool := if (List.range l.length).all (g.cycAt l) = true then (decide (0 < l.length), decide (0 < l.length) && decide (g.sumTo l l.length ≤ 0)) else (false, false)
theorem inE_iff {g : Gr} {x : Int} : g.inE x = true ↔ 0 ≤ x ∧ x.toNat < g.es.length := by
  unfold Gr.inE
  simp only [Bool.and_eq_true, decide_eq_true_eq]
  omega
theorem cycAt_iff {g : Gr} {l : List Int} {i : Nat} : g.cycAt l i = true ↔ (0 ≤ l.getD i 0 ∧ (l.getD i 0).toNat < g.es.length) ∧ (0 ≤ l.getD (nxt l i) 0 ∧ (l.getD (nxt l i) 0).toNat < g.es.length) ∧ (g.eAt (l.getD (nxt l i) 0)).f = (g.eAt (l.getD i 0)).t ∧ ∀ k, k < i → (g.eAt (l.getD k 0)).f ≠ (g.eAt (l.getD i 0)).f := by
  unfold Gr.cycAt Gr.firstAt
  simp only [Bool.and_eq_true, inE_iff, decide_eq_true_eq, List.all_eq_true, List.mem_range, Bool.not_eq_true', decide_eq_false_iff_not]
theorem sumTo_bd {g : Gr} (h : g.OK) {l : List Int} (hl : ∀ i, i < l.length → (l.getD i 0).toNat < g.es.length) : ∀ i, i ≤ l.length → -((i : Int) * 1048576) ≤ g.sumTo l i ∧ g.sumTo l i ≤ (i : Int) * 1048576
  | 0, _ => by simp [Gr.sumTo, Gr.sumL]
  | i + 1, hi => by
    have ih := sumTo_bd h hl i (by omega)
    have hw := g.wt_bd h (e := g.eAt (l.getD i 0)) (Gr.edge h (hl i (by omega))).1
    rw [sumTo_succ g (by omega)]
    omega

/-! Positions. -/
def PotF (g : Gr) (F : Nat → Int) : Prop := ∀ e ∈ g.es, F e.t.toNat ≤ F e.f.toNat + g.W e
theorem cycleP_long {g : Gr} (h : g.OK) {F : Nat → Int} (hF : PotF g F) (l : List Int) : (g.cycleP l).2 = false := by
  unfold Gr.cycleP
  split
  · rename_i hall
    rw [List.all_eq_true] at hall
    have hat : ∀ i, i < l.length → _ := fun i hi => (cycAt_iff (g := g) (l := l) (i := i)).1 (hall i (by simpa using hi))
    by_cases h0 : 0 < l.length
    · rw [decide_eq_true h0]
      simp only [Bool.true_and, decide_eq_false_iff_not]
      have hW : ∀ i, i < l.length → F (g.eAt (l.getD i 0)).t.toNat ≤ F (g.eAt (l.getD i 0)).f.toNat + ((g.nn + 1) * g.wt (g.eAt (l.getD i 0)) - 1) := fun i hi => hF _ (Gr.edge h (hat i hi).1.2).1
      have key : ∀ i, i < l.length → F (g.eAt (l.getD i 0)).f.toNat ≤ F (g.eAt (l.getD 0 0)).f.toNat + ((g.nn + 1) * g.sumTo l i - i) := by
        intro i
        induction i with
        | zero => intro _; simp [Gr.sumTo, Gr.sumL]
        | succ i ih =>
          intro hi
          have a := ih (by omega)
          have b := hW i (by omega)
          have c := (hat i (by omega)).2.2.1
          rw [show nxt l i = i + 1 from Nat.mod_eq_of_lt hi] at c
          rw [c, sumTo_succ g (by omega), Int.mul_add]
          omega
      obtain ⟨p, hp⟩ : ∃ p, l.length = p + 1 := ⟨l.length - 1, by omega⟩
      have a := key p (by omega)
      have b := hW p (by omega)
      have c := (hat p (by omega)).2.2.1
      rw [show nxt l p = 0 by show (p + 1) % l.length = 0; rw [hp, Nat.mod_self]] at c
      rw [← c] at b
      intro hle
      have hs := sumTo_succ g (l := l) (i := p) (by omega)
      rw [← hp] at hs
      have hm : (g.nn + 1) * g.sumTo l l.length = (g.nn + 1) * g.sumTo l p + (g.nn + 1) * g.wt (g.eAt (l.getD p 0)) := by rw [hs, Int.mul_add]
      have h1 : (g.nn + 1) * g.sumTo l l.length ≤ (g.nn + 1) * 0 := Int.mul_le_mul_of_nonneg_left hle (by show (0 : Int) ≤ (g.lat.length : Int) + 1; omega)
      omega
    · rw [decide_eq_false h0]; rfl
  · rfl
theorem short_pot {g : Gr} (h : g.OK) : g.short = false ↔ ∃ F, PotF g F := by
  constructor
  · intro hs
    rcases run_short h with ⟨_, _, hq⟩ | ⟨_, _, _, h1, _⟩
    · exact ⟨g.run.F, hq⟩
    · rw [hs] at h1; cases h1
  · rintro ⟨F, hF⟩
    refine quiet_long h (s := ⟨(List.range g.lat.length).map F, [], 0⟩) fun e he => ?_
    obtain ⟨j, hj, rfl⟩ := List.mem_iff_getElem.1 he
    have hg := Gr.edge h hj
    rw [getD_lt _ _ hj] at hg
    have hat : ∀ v, v < g.lat.length → (⟨(List.range g.lat.length).map F, [], 0⟩ : BF).F v = F v := fun v hv => by
      show ((List.range g.lat.length).map F).getD v 0 = F v
      rw [getD_lt _ _ (by simpa using hv)]; simp
    rw [hat _ hg.2.1, hat _ hg.2.2.1]
    exact hF _ he

/-! The cycle that is found. -/
theorem cyc_cycle {g : Gr} (h : g.OK) (hs : g.short = true) (hl : g.looped = true) : g.cycleP g.cyc = (true, true) ∧ g.cyc.length ≤ g.lat.length := by
  rcases run_short h with ⟨_, h1, _⟩ | ⟨v, hv, hvn, _, hway, hcy⟩
  · rw [hs] at h1; cases h1
  have hkn : g.knot = g.back g.run (g.lat.length + 1) v := by unfold Gr.knot Gr.top; rw [hv]; rfl
  rw [← hkn] at hcy
  obtain ⟨hp0, hpn, hpx, hmin⟩ := per_spec hcy
  have hc : g.cyc = (((List.range g.per).map fun i => g.run.B (g.back g.run i g.knot)).reverse) := if_pos hl
  obtain ⟨x, hx⟩ : ∃ x, g.knot = x := ⟨_, rfl⟩
  rw [hx] at hcy hpx hmin hc
  obtain ⟨p, hp⟩ : ∃ p, g.per = p := ⟨_, rfl⟩
  rw [hp] at hp0 hpn hpx hmin hc
  have hlen : g.cyc.length = p := by rw [hc]; simp
  have hat : ∀ j, j < p → g.cyc.getD j 0 = g.run.B (g.back g.run (p - 1 - j) x) := fun j hj => by
    rw [getD_lt _ _ (by rw [hlen]; exact hj)]
    simp only [hc]
    rw [List.getElem_reverse]
    simp
  have hed : ∀ i, 0 ≤ g.run.B (g.back g.run i x) ∧ (g.run.B (g.back g.run i x)).toNat < g.es.length ∧ (g.eAt (g.run.B (g.back g.run i x))).f = (g.back g.run (i + 1) x : Nat) ∧ (g.eAt (g.run.B (g.back g.run i x))).t = (g.back g.run i x : Nat) ∧
      g.run.F (g.back g.run (i + 1) x) + ((g.nn + 1) * g.wt (g.eAt (g.run.B (g.back g.run i x))) - 1) ≤ g.run.F (g.back g.run i x) := fun i => by
    obtain ⟨hlt, j, hj, hB, ht, hF⟩ := hcy.way i
    have hE := Gr.edge h hj
    have e1 : g.back g.run (i + 1) x = (g.es.getD j default).f.toNat := by
      show g.pr g.run (g.back g.run i x) = _
      unfold Gr.pr; rw [hB]; simp
    have e2 : g.eAt (g.run.B (g.back g.run i x)) = g.es.getD j default := by unfold Gr.eAt; rw [hB]; simp
    rw [e2, e1, hB]
    exact ⟨by omega, by simpa using hj, by omega, by omega, hF⟩
  have hdist : ∀ a b, 0 < a → a < b → b ≤ p → g.back g.run a x ≠ g.back g.run b x := fun a b ha hab hb e => by
    by_cases hbp : b = p
    · subst hbp; rw [hpx] at e; exact hmin a ha hab e
    · have h2 : g.back g.run (p - b) (g.back g.run a x) = g.back g.run (p - b) (g.back g.run b x) := by rw [e]
      rw [← back_add, ← back_add, show b + (p - b) = p by omega, hpx] at h2
      exact hmin (a + (p - b)) (by omega) (by omega) h2
  have hall : (List.range g.cyc.length).all (g.cycAt g.cyc) = true := List.all_eq_true.2 fun j hj => by
    have hj : j < p := by rw [hlen] at hj; simpa using hj
    obtain ⟨a1, a2, a3, a4, _⟩ := hed (p - 1 - j)
    have hn : nxt g.cyc j < p := by show (j + 1) % g.cyc.length < p; rw [hlen]; exact Nat.mod_lt _ hp0
    obtain ⟨b1, b2, b3, b4, _⟩ := hed (p - 1 - nxt g.cyc j)
    refine cycAt_iff.2 ⟨by rw [hat j hj]; exact ⟨a1, a2⟩, by rw [hat _ hn]; exact ⟨b1, b2⟩, ?_, fun k hk => ?_⟩
    · rw [hat j hj, hat _ hn, a4, b3]
      by_cases hjp : j + 1 = p
      · have : nxt g.cyc j = 0 := by show (j + 1) % g.cyc.length = 0; rw [hlen, hjp, Nat.mod_self]
        rw [this, show p - 1 - 0 + 1 = p by omega, hpx, show p - 1 - j = 0 by omega]; rfl
      · have : nxt g.cyc j = j + 1 := by show (j + 1) % g.cyc.length = j + 1; rw [hlen]; exact Nat.mod_eq_of_lt (by omega)
        rw [this, show p - 1 - (j + 1) + 1 = p - 1 - j by omega]
    · rw [hat j hj, hat k (by omega)]
      obtain ⟨_, _, c3, _, _⟩ := hed (p - 1 - k)
      rw [a3, c3]
      intro e
      exact hdist (p - 1 - j + 1) (p - 1 - k + 1) (by omega) (by omega) (by omega) (by omega)
  have hsum : ∀ k, g.run.F (g.back g.run k x) + ((g.nn + 1) * g.sumL ((List.range k).map fun i => g.run.B (g.back g.run i x)) - k) ≤ g.run.F x := by
    intro k
    induction k with
    | zero => simp [Gr.sumL, Gr.back]
    | succ k ih =>
      have := (hed k).2.2.2.2
      rw [List.range_succ, List.map_append, sumL_app, Int.mul_add]
      simp only [List.map_cons, List.map_nil, Gr.sumL, Int.add_zero]
      omega
  have hS := hsum p
  rw [hpx] at hS
  have hST : g.sumTo g.cyc g.cyc.length = g.sumL ((List.range p).map fun i => g.run.B (g.back g.run i x)) := by
    unfold Gr.sumTo
    rw [List.take_length, hc, sumL_rev]
  have hle : g.sumTo g.cyc g.cyc.length ≤ 0 := by
    rw [hST]
    refine Classical.byContradiction fun hn => ?_
    have : (g.nn + 1) * 1 ≤ (g.nn + 1) * g.sumL ((List.range p).map fun i => g.run.B (g.back g.run i x)) := Int.mul_le_mul_of_nonneg_left (by omega) (by unfold Gr.nn; omega)
    unfold Gr.nn at *
    omega
  refine ⟨?_, by omega⟩
  unfold Gr.cycleP
  rw [if_pos hall, decide_eq_true (show 0 < g.cyc.length by omega), decide_eq_true hle]
  rfl

end Go.Proofs.Ytcnikeonaklkoaa
