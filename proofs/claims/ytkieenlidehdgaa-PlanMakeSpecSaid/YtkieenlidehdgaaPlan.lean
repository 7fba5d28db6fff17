/- Flows on graphs, in plain Lean: the least positions; the plan of least memory, by changing a flow along cycles. No program in sight. -/
import Derived.Test.YtkieenlidehdgaaNet
namespace Go.Proofs.Ytkieenlidehdgaa
set_option linter.unusedVariables false
set_option linter.unusedSimpArgs false

abbrev Gr.ed (g : Gr) (i : Nat) : Edg := g.es.getD i default
def Gr.byE (g : Gr) (i : Nat) : Int := g.lat.getD (g.ed i).f.toNat 0 - (g.ed i).d
def Gr.fwd (g : Gr) (i : Nat) : Arc := ⟨(g.ed i).f, (g.ed i).t, g.byE i, i, false⟩
def Gr.bwd (g : Gr) (i : Nat) : Arc := ⟨(g.ed i).t, (g.ed i).f, -g.byE i, i, true⟩
def Gr.arcsAt (g : Gr) (fl : List Int) (i : Nat) : List Arc := if 0 < fl.getD i 0 then [g.fwd i, g.bwd i] else [g.fwd i]
def Gr.arcsTo (g : Gr) (fl : List Int) : Nat → List Arc
  | 0 => []
  | i + 1 => g.arcsTo fl i ++ g.arcsAt fl i
def Gr.net (g : Gr) (fl : List Int) : Net := ⟨g.lat.length, g.arcsTo fl g.es.length⟩
def Gr.pos (g : Gr) (fl : List Int) (i : Nat) : Nat := (g.arcsTo fl i).length
theorem pos_le (g : Gr) (fl : List Int) (i : Nat) : g.pos fl i ≤ 2 * i := by
  induction i with
  | zero => exact Nat.le_refl _
  | succ i ih =>
    unfold Gr.pos at *
    show (g.arcsTo fl i ++ g.arcsAt fl i).length ≤ _
    have : (g.arcsAt fl i).length ≤ 2 := by unfold Gr.arcsAt; split <;> simp
    rw [List.length_append]; omega
theorem arcsTo_app (g : Gr) (fl : List Int) (i d : Nat) : ∃ r, g.arcsTo fl (i + d) = g.arcsTo fl i ++ r := by
  induction d with
  | zero => exact ⟨[], by simp⟩
  | succ d ih =>
    obtain ⟨r, hr⟩ := ih
    exact ⟨r ++ g.arcsAt fl (i + d), by show g.arcsTo fl (i + d) ++ g.arcsAt fl (i + d) = _; rw [hr, List.append_assoc]⟩
theorem arcs_split {g : Gr} {fl : List Int} {i : Nat} (hi : i < g.es.length) : ∃ r, (g.net fl).as = g.arcsTo fl i ++ (g.arcsAt fl i ++ r) := by
  obtain ⟨r, hr⟩ := arcsTo_app g fl (i + 1) (g.es.length - (i + 1))
  rw [show i + 1 + (g.es.length - (i + 1)) = g.es.length by omega] at hr
  exact ⟨r, by show g.arcsTo fl g.es.length = _; rw [hr]; show (g.arcsTo fl i ++ _) ++ _ = _; rw [List.append_assoc]⟩
/-- Where the arcs of an edge stand. -/
theorem arcs_at {g : Gr} {fl : List Int} {i : Nat} (hi : i < g.es.length) : g.pos fl i < (g.net fl).as.length ∧ (g.net fl).as.getD (g.pos fl i) default = g.fwd i ∧
    (0 < fl.getD i 0 → g.pos fl i + 1 < (g.net fl).as.length ∧ (g.net fl).as.getD (g.pos fl i + 1) default = g.bwd i ∧ g.pos fl (i + 1) = g.pos fl i + 2) ∧ (¬ 0 < fl.getD i 0 → g.pos fl (i + 1) = g.pos fl i + 1) := by
  obtain ⟨r, hr⟩ := arcs_split (fl := fl) hi
  have hs : g.pos fl (i + 1) = g.pos fl i + (g.arcsAt fl i).length := by unfold Gr.pos; show (g.arcsTo fl i ++ g.arcsAt fl i).length = _; simp
  have hl : (g.net fl).as.length = g.pos fl i + ((g.arcsAt fl i).length + r.length) := by rw [hr]; simp [Gr.pos]
  have hg : ∀ k, (g.net fl).as.getD (g.pos fl i + k) default = (g.arcsAt fl i ++ r).getD k default := fun k => by
    rw [hr, List.getD_eq_getElem?_getD, List.getD_eq_getElem?_getD, List.getElem?_append_right (by unfold Gr.pos; omega)]
    congr 2; unfold Gr.pos; omega
  have h0 := hg 0
  have h1 := hg 1
  rw [Nat.add_zero] at h0
  rw [h0, h1, hs, hl]
  unfold Gr.arcsAt
  by_cases hf : 0 < fl.getD i 0
  · rw [if_pos hf]
    refine ⟨by simp; omega, by simp, fun _ => ⟨by simp; omega, by simp, by simp⟩, fun h => absurd hf h⟩
  · rw [if_neg hf]
    refine ⟨by simp; omega, by simp, fun h => absurd h hf, fun _ => by simp⟩
theorem mem_arcsTo {g : Gr} {fl : List Int} {a : Arc} : ∀ k, a ∈ g.arcsTo fl k ↔ ∃ i, i < k ∧ (a = g.fwd i ∨ (0 < fl.getD i 0 ∧ a = g.bwd i))
  | 0 => by simp [Gr.arcsTo]
  | k + 1 => by
    show a ∈ g.arcsTo fl k ++ g.arcsAt fl k ↔ _
    rw [List.mem_append, mem_arcsTo k]
    have hat : a ∈ g.arcsAt fl k ↔ (a = g.fwd k ∨ (0 < fl.getD k 0 ∧ a = g.bwd k)) := by
      unfold Gr.arcsAt
      split
      · rename_i h; simp only [List.mem_cons, List.not_mem_nil, or_false]; constructor
        · rintro (h1 | h1); exact .inl h1; exact .inr ⟨h, h1⟩
        · rintro (h1 | h1); exact .inl h1; exact .inr h1.2
      · rename_i h; simp only [List.mem_cons, List.not_mem_nil, or_false]; constructor
        · exact .inl
        · rintro (h1 | h1); exact h1; exact absurd h1.1 h
    rw [hat]
    constructor
    · rintro (⟨i, hi, h⟩ | h)
      · exact ⟨i, by omega, h⟩
      · exact ⟨k, by omega, h⟩
    · rintro ⟨i, hi, h⟩
      by_cases e : i = k
      · subst e; exact .inr h
      · exact .inl ⟨i, by omega, h⟩
theorem mem_net {g : Gr} {fl : List Int} {a : Arc} : a ∈ (g.net fl).as ↔ ∃ i, i < g.es.length ∧ (a = g.fwd i ∨ (0 < fl.getD i 0 ∧ a = g.bwd i)) := mem_arcsTo _
theorem byE_bd {g : Gr} (h : g.OK) (i : Nat) (hi : i < g.es.length) : -1048576 ≤ g.byE i ∧ g.byE i ≤ 4096 := by
  have h1 := h.es (g.ed i) (Gr.edge h hi).1
  have h2 := g.lat_at h (g.ed i).f.toNat
  unfold Gr.byE
  omega
theorem net_ok {g : Gr} (h : g.OK) (fl : List Int) : (g.net fl).OK := ⟨fun a ha => by
  obtain ⟨i, hi, ha⟩ := mem_net.1 ha
  have h1 := h.es _ (Gr.edge h hi).1
  have h2 := byE_bd h i hi
  rcases ha with rfl | ⟨_, rfl⟩
  · exact ⟨h1.1, h1.2.1, by show _ ≤ g.byE i; omega, by show g.byE i ≤ _; omega⟩
  · exact ⟨h1.2.1, h1.1, by show _ ≤ -g.byE i; omega, by show -g.byE i ≤ _; omega⟩⟩
theorem net_len (g : Gr) (fl : List Int) : (g.net fl).as.length ≤ 2 * g.es.length := pos_le g fl _

/-! Positions. -/
def Gr.sl (g : Gr) (p : Nat → Int) (i : Nat) : Int := p (g.ed i).t.toNat + (g.ed i).d - p (g.ed i).f.toNat - g.lat.getD (g.ed i).f.toNat 0
def Gr.df (g : Gr) (p : Nat → Int) (i : Nat) : Int := p (g.ed i).t.toNat - p (g.ed i).f.toNat
theorem sl_df (g : Gr) (p : Nat → Int) (i : Nat) : g.sl p i = g.df p i - g.byE i := by unfold Gr.sl Gr.df Gr.byE; omega
abbrev fn (l : List Int) (v : Nat) : Int := l.getD v 0
def Gr.mem (g : Gr) (p : Nat → Int) : Int := sm g.es.length fun i => g.sl p i * (g.ed i).w
def Gr.delays (g : Gr) (p : Nat → Int) : List Int := (List.range g.es.length).map (g.sl p)
structure Feas (g : Gr) (p : Nat → Int) : Prop where
  pos : ∀ v, v < g.lat.length → 0 ≤ p v
  sl : ∀ i, i < g.es.length → 0 ≤ g.sl p i
theorem meets_iff {g : Gr} {fl : List Int} {p : Nat → Int} : (g.net fl).Meets p ↔ ∀ i, i < g.es.length → 0 ≤ g.sl p i ∧ (0 < fl.getD i 0 → g.sl p i ≤ 0) := by
  constructor
  · intro h i hi
    have h1 : p (g.ed i).f.toNat + g.byE i ≤ p (g.ed i).t.toNat := h (g.fwd i) (mem_net.2 ⟨i, hi, .inl rfl⟩)
    refine ⟨by rw [sl_df]; unfold Gr.df; omega, fun hf => ?_⟩
    have h2 : p (g.ed i).t.toNat + -g.byE i ≤ p (g.ed i).f.toNat := h (g.bwd i) (mem_net.2 ⟨i, hi, .inr ⟨hf, rfl⟩⟩)
    rw [sl_df]; unfold Gr.df; omega
  · intro h a ha
    obtain ⟨i, hi, ha⟩ := mem_net.1 ha
    have h1 := h i hi
    rw [sl_df] at h1
    unfold Gr.df at h1
    rcases ha with rfl | ⟨hf, rfl⟩
    · show p (g.ed i).f.toNat + g.byE i ≤ p (g.ed i).t.toNat
      omega
    · show p (g.ed i).t.toNat + -g.byE i ≤ p (g.ed i).f.toNat
      have := h1.2 hf
      omega
theorem lrun_stt' (N : Net) : ∀ k j, ∃ i, i ≤ k ∧ N.rounds k (N.stt j) = N.stt (j + i)
  | 0, j => ⟨0, Nat.le_refl _, rfl⟩
  | k + 1, j => by
    have e : N.rounds (k + 1) (N.stt j) = if (N.pass (N.stt j)).node < 0 then N.pass (N.stt j) else N.rounds k (N.pass (N.stt j)) := rfl
    rw [e]
    split
    · exact ⟨1, by omega, rfl⟩
    · obtain ⟨i, hi, h⟩ := lrun_stt' N k (j + 1)
      exact ⟨i + 1, by omega, by rw [show j + (i + 1) = j + 1 + i by omega, ← h]; rfl⟩
theorem lrun_top {N : Net} (h : N.OK) (v : Nat) : 0 ≤ N.run.A v ∧ N.run.A v ≤ (((N.n + 1) * N.as.length : Nat) : Int) * 1052672 := by
  obtain ⟨i, hi, hr⟩ := lrun_stt' N (N.n + 1) 0
  have hr : N.run = N.stt (0 + i) := hr
  obtain ⟨st, I⟩ := linv_stt h (0 + i)
  rw [hr]
  have h1 := I.low v
  have h2 := I.top v
  have h3 : ((0 + i + 1 - 1) * N.as.length + 0) ≤ (N.n + 1) * N.as.length := by
    rw [Nat.add_zero]; exact Nat.mul_le_mul_right _ (by omega)
  refine ⟨h1, ?_⟩
  have h2 : (N.stt (0 + i)).A v ≤ (((0 + i + 1 - 1) * N.as.length + 0 : Nat) : Int) * 1052672 := h2
  omega
theorem run_stt' (g : Gr) : ∀ k j, ∃ i, i ≤ k ∧ rounds g k (g.stt j) = g.stt (j + i)
  | 0, j => ⟨0, Nat.le_refl _, rfl⟩
  | k + 1, j => by
    have e : rounds g (k + 1) (g.stt j) = if (pass g (g.stt j)).last < 0 then pass g (g.stt j) else rounds g k (pass g (g.stt j)) := rfl
    rw [e]
    split
    · exact ⟨1, by omega, rfl⟩
    · obtain ⟨i, hi, h⟩ := run_stt' g k (j + 1)
      exact ⟨i + 1, by omega, by rw [show j + (i + 1) = j + 1 + i by omega, ← h]; rfl⟩
/-- Positions in which each edge has something to spare. -/
theorem pot_of {g : Gr} (h : g.OK) (hs : g.short = false) : ∃ π : Nat → Int, (∀ i, i < g.es.length → (g.nn + 1) * g.byE i + 1 ≤ g.df π i) ∧ ∀ v, 0 ≤ π v ∧ π v ≤ (((g.lat.length + 1) * g.es.length : Nat) : Int) * 16785408 := by
  rcases run_short h with ⟨_, _, hq⟩ | ⟨v, _, _, hs', _⟩
  · refine ⟨fun v => -(g.run.F v), fun i hi => ?_, fun v => ?_⟩
    · have h1 := hq _ (Gr.edge h hi).1
      unfold Gr.W at h1
      have e : g.wt (g.ed i) = -g.byE i := by unfold Gr.wt Gr.byE; omega
      have h1 : g.run.F (g.ed i).t.toNat ≤ g.run.F (g.ed i).f.toNat + ((g.nn + 1) * g.wt (g.ed i) - 1) := h1
      rw [e, Int.mul_neg] at h1
      unfold Gr.df
      dsimp only
      omega
    · obtain ⟨i, hi, hr⟩ := run_stt' g (g.lat.length + 1) 0
      have hr : g.run = g.stt (0 + i) := hr
      obtain ⟨st, I⟩ := inv_stt h (0 + i)
      have h1 := I.top v
      have h2 := I.low v
      have h3 : ((0 + i + 1 - 1) * g.es.length + 0) ≤ (g.lat.length + 1) * g.es.length := by
        rw [Nat.add_zero]; exact Nat.mul_le_mul_right _ (by omega)
      have e1 : BF.F { g.stt (0 + i) with last := -1 } v = g.run.F v := by rw [hr]
      rw [e1] at h1 h2
      have h4 : ((((0 + i + 1 - 1) * g.es.length + 0 : Nat) : Int)) ≤ (((g.lat.length + 1) * g.es.length : Nat) : Int) := by exact_mod_cast h3
      dsimp only
      omega
  · rw [hs] at hs'; cases hs'

/-! A cycle of the net. -/
structure NCyc (g : Gr) (fl : List Int) (c : List Arc) : Prop where
  len : 0 < c.length ∧ c.length ≤ g.lat.length
  mem : ∀ i, i < c.length → c.getD i default ∈ (g.net fl).as
  dist : ∀ i j, i < j → j < c.length → (c.getD i default).t ≠ (c.getD j default).t
  tele : ∀ p : Nat → Int, sm c.length (fun i => p (c.getD i default).t.toNat - p (c.getD i default).f.toNat) = 0
  grow : 0 < sm c.length fun i => (c.getD i default).by_
theorem back_dist {s : LP} {x p : Nat} (hpx : s.back p x = x) (hmin : ∀ k, 0 < k → k < p → s.back k x ≠ x) {i j : Nat} (hij : i < j) (hj : j < p) : s.back i x ≠ s.back j x := fun e => by
  have h1 : s.back (p - j) (s.back i x) = s.back (p - j) (s.back j x) := by rw [e]
  rw [← lback_add, ← lback_add, show j + (p - j) = p by omega, hpx] at h1
  exact hmin (i + (p - j)) (by omega) (by omega) h1
theorem ncyc_of {g : Gr} (h : g.OK) {fl : List Int} (hq : ¬ (g.net fl).run.node < 0) : NCyc g fl (g.net fl).cyc := by
  rcases lrun_cases (net_ok h fl) with ⟨h1, _⟩ | ⟨_, _, c⟩
  · omega
  · obtain ⟨hp0, hpn, hpx, hmin⟩ := lper_spec c
    have hg := lcyc_sum c
    obtain ⟨p, hp⟩ : ∃ p, (g.net fl).run.per (g.net fl).n (g.net fl).knot = p := ⟨_, rfl⟩
    obtain ⟨x, hx⟩ : ∃ x, (g.net fl).knot = x := ⟨_, rfl⟩
    obtain ⟨s, hs⟩ : ∃ s, (g.net fl).run = s := ⟨_, rfl⟩
    have hc : (g.net fl).cyc = s.gone x p := by unfold Net.cyc; rw [hp, hx, hs]
    rw [hs, hx] at c
    rw [hs, hx] at hg hmin hpx hp hp0 hpn
    rw [hp] at hg hmin hpx hp0 hpn
    have hl : (s.gone x p).length = p := by simp
    have hat : ∀ i, i < p → (s.gone x p).getD i default = s.L (s.back i x) := fun i hi => by
      rw [getD_lt _ _ (by rw [hl]; exact hi)]; simp
    have hto : ∀ i, (s.L (s.back i x)).t.toNat = s.back i x := fun i => (c.way i).to_
    rw [hc]
    refine ⟨by rw [hl]; exact ⟨hp0, hpn⟩, fun i hi => ?_, fun i j hij hj => ?_, fun q => ?_, ?_⟩
    · rw [hl] at hi; rw [hat i hi]; exact (c.way i).mem
    · rw [hl] at hj
      rw [hat i (by omega), hat j hj]
      intro e
      have e2 := congrArg Int.toNat e
      rw [hto, hto] at e2
      exact back_dist hpx hmin hij hj e2
    · rw [hl]
      have e : sm p (fun i => q ((s.gone x p).getD i default).t.toNat - q ((s.gone x p).getD i default).f.toNat) = sm p (fun i => q (s.back i x) - q (s.back (i + 1) x)) := sm_eq fun i hi => by
        rw [hat i hi, hto]; rfl
      rw [e, sm_tele (m := p) fun i => q (s.back i x), hpx]
      show q x - q x = 0
      omega
    · rw [hl]
      have e : sm p (fun i => ((s.gone x p).getD i default).by_) = sm p (fun i => (s.L (s.back i x)).by_) := sm_eq fun i hi => by rw [hat i hi]
      rw [e]; exact hg
/-- Where no cycle of edges is too short, it goes an edge back. -/
theorem ncyc_back {g : Gr} (h : g.OK) (hs : g.short = false) {fl : List Int} {c : List Arc} (hc : NCyc g fl c) : ∃ i, i < c.length ∧ (c.getD i default).b = true := by
  refine Classical.byContradiction fun hno => ?_
  obtain ⟨π, hπ, _⟩ := pot_of h hs
  have h1 : ∀ i, i < c.length → (g.nn + 1) * (c.getD i default).by_ + 1 ≤ π (c.getD i default).t.toNat - π (c.getD i default).f.toNat := fun i hi => by
    obtain ⟨j, hj, ha⟩ := mem_net.1 (hc.mem i hi)
    rcases ha with ha | ⟨_, ha⟩
    · rw [ha]; exact hπ j hj
    · exact absurd ⟨i, hi, by rw [ha]; rfl⟩ hno
  have h2 := sm_le h1
  rw [hc.tele π, sm_add, sm_mul, sm_const] at h2
  have h3 := hc.grow
  have h4 := hc.len.1
  have h5 : (g.nn + 1) * 1 ≤ (g.nn + 1) * sm c.length (fun i => (c.getD i default).by_) := Int.mul_le_mul_of_nonneg_left h3 (by unfold Gr.nn; omega)
  unfold Gr.nn at h5 h2
  omega
/-- The least positions: where no edge has a flow. -/
def Gr.zeros (g : Gr) : List Int := List.replicate g.es.length 0
theorem zeros_at (g : Gr) (i : Nat) : g.zeros.getD i 0 = 0 := by
  simp only [Gr.zeros, List.getD_eq_getElem?_getD, List.getElem?_replicate]; split <;> rfl
theorem zeros_quiet {g : Gr} (h : g.OK) (hs : g.short = false) : (g.net g.zeros).run.node < 0 := by
  refine Classical.byContradiction fun hq => ?_
  have c := ncyc_of h hq
  obtain ⟨i, hi, hb⟩ := ncyc_back h hs c
  obtain ⟨j, hj, ha⟩ := mem_net.1 (c.mem i hi)
  rcases ha with ha | ⟨hf, ha⟩
  · rw [ha] at hb; cases hb
  · rw [zeros_at] at hf; omega
def Gr.low (g : Gr) : List Int := (g.net g.zeros).run.at_
theorem quiet_pos {g : Gr} (h : g.OK) {fl : List Int} (hq : (g.net fl).run.node < 0) : (g.net fl).run.at_.length = g.lat.length ∧ Feas g (g.net fl).run.A ∧ (g.net fl).Meets (g.net fl).run.A ∧ ∀ p, (∀ v, v < g.lat.length → 0 ≤ p v) → (g.net fl).Meets p → ∀ v, v < g.lat.length → (g.net fl).run.A v ≤ p v := by
  rcases lrun_cases (net_ok h fl) with ⟨_, hm⟩ | ⟨⟨v, _, hv⟩, _⟩
  · refine ⟨(lrun_below (net_ok h fl) hm fun v _ => (lrun_top (net_ok h fl) v).1).1, ⟨fun v _ => (lrun_top (net_ok h fl) v).1, fun i hi => (meets_iff.1 hm i hi).1⟩, hm, fun p h0 hp => (lrun_below (net_ok h fl) hp h0).2⟩
  · omega
structure Low (g : Gr) (l : List Int) : Prop where
  len : l.length = g.lat.length
  feas : Feas g (fn l)
  least : ∀ p, Feas g p → ∀ v, v < g.lat.length → fn l v ≤ p v
theorem low_spec {g : Gr} (h : g.OK) (hs : g.short = false) : Low g g.low := by
  obtain ⟨h1, h2, _, h3⟩ := quiet_pos h (zeros_quiet h hs)
  exact ⟨h1, h2, fun p hp => h3 p hp.pos (meets_iff.2 fun i hi => ⟨hp.sl i hi, fun hf => by rw [zeros_at] at hf; omega⟩)⟩
theorem ext_fn {l m : List Int} (hl : l.length = m.length) (h : ∀ k, k < l.length → fn l k = fn m k) : l = m := by
  refine List.ext_getElem hl fun k h1 h2 => ?_
  have := h k h1
  unfold fn at this
  rwa [getD_lt _ _ h1, getD_lt _ _ h2] at this
theorem low_unique {g : Gr} {a b : List Int} (ha : Low g a) (hb : Low g b) : a = b := ext_fn (ha.len.trans hb.len.symm) fun k hk => by
  have h1 := ha.least _ hb.feas k (by rw [← ha.len]; exact hk)
  have h2 := hb.least _ ha.feas k (by rw [← ha.len]; exact hk)
  omega

/-! Flows. -/
structure Flow (g : Gr) (fl : List Int) : Prop where
  len : fl.length = g.es.length
  pos : ∀ i, i < g.es.length → 0 ≤ fn fl i
  same : ∀ p : Nat → Int, sm g.es.length (fun i => fn fl i * g.df p i) = sm g.es.length (fun i => (g.ed i).w * g.df p i)
  up : sm g.es.length (fun i => (g.ed i).w * g.byE i) ≤ sm g.es.length (fun i => fn fl i * g.byE i)
def Gr.ws (g : Gr) : List Int := g.es.map (·.w)
theorem ws_at {g : Gr} {i : Nat} (hi : i < g.es.length) : g.ws.getD i 0 = (g.ed i).w := by
  unfold Gr.ws Gr.ed
  rw [getD_lt _ _ (by simpa using hi), getD_lt _ _ hi]; simp
theorem flow_ws {g : Gr} (h : g.OK) : Flow g g.ws := by
  refine ⟨by simp [Gr.ws], fun i hi => ?_, fun p => sm_eq fun i hi => ?_, ?_⟩
  · show 0 ≤ g.ws.getD i 0
    rw [ws_at hi]; exact (h.es _ (Gr.edge h hi).1).2.2.1.1
  · show g.ws.getD i 0 * _ = _
    rw [ws_at hi]
  · refine Int.le_of_eq (sm_eq fun i hi => ?_)
    show _ = g.ws.getD i 0 * _
    rw [ws_at hi]
structure Gr.Small (g : Gr) : Prop where
  n : g.lat.length ≤ 1000
  m : g.es.length ≤ 1000
theorem flow_bd {g : Gr} (h : g.OK) (hs : g.short = false) (hsm : g.Small) {fl : List Int} (hf : Flow g fl) {j : Nat} (hj : j < g.es.length) : fn fl j ≤ 1152921504606846976 := by
  obtain ⟨π, hπ, hb⟩ := pot_of h hs
  have hr : (((g.lat.length + 1) * g.es.length : Nat) : Int) ≤ 1001000 := by
    have : (g.lat.length + 1) * g.es.length ≤ 1001 * 1000 := Nat.mul_le_mul (by have := hsm.n; omega) hsm.m
    omega
  let X : Nat → Int := fun i => g.df π i - (g.nn + 1) * g.byE i
  have hX1 : ∀ i, i < g.es.length → 1 ≤ X i := fun i hi => by have := hπ i hi; show 1 ≤ g.df π i - _; omega
  have hX2 : ∀ i, i < g.es.length → X i ≤ 16804000000000 := fun i hi => by
    have h1 := byE_bd h i hi
    have h2 := hb (g.ed i).t.toNat
    have h3 := hb (g.ed i).f.toNat
    have h4 : (g.nn + 1) * (-1048576) ≤ (g.nn + 1) * g.byE i := Int.mul_le_mul_of_nonneg_left h1.1 (by unfold Gr.nn; omega)
    have h5 := hsm.n
    show g.df π i - _ ≤ _
    unfold Gr.df Gr.nn at *
    omega
  have e1 : ∀ u : Nat → Int, sm g.es.length (fun i => u i * X i) = sm g.es.length (fun i => u i * g.df π i) - (g.nn + 1) * sm g.es.length (fun i => u i * g.byE i) := fun u => by
    have : sm g.es.length (fun i => u i * g.df π i) = sm g.es.length (fun i => u i * X i) + sm g.es.length (fun i => (g.nn + 1) * (u i * g.byE i)) := by
      rw [← sm_add]
      refine sm_eq fun i hi => ?_
      show u i * g.df π i = u i * (g.df π i - (g.nn + 1) * g.byE i) + (g.nn + 1) * (u i * g.byE i)
      rw [Int.mul_sub, Int.mul_left_comm]; omega
    rw [this, sm_mul]; omega
  have h1 : fn fl j ≤ sm g.es.length (fun i => fn fl i * X i) := by
    have a := sm_one (m := g.es.length) (f := fun i => fn fl i * X i) (fun i hi => Int.mul_nonneg (hf.pos i hi) (by have := hX1 i hi; omega)) hj
    have b : fn fl j * 1 ≤ fn fl j * X j := Int.mul_le_mul_of_nonneg_left (hX1 j hj) (hf.pos j hj)
    have a : fn fl j * X j ≤ _ := a
    omega
  have h2 : sm g.es.length (fun i => fn fl i * X i) ≤ sm g.es.length (fun i => (g.ed i).w * X i) := by
    rw [e1, e1, hf.same π]
    have : (g.nn + 1) * _ ≤ (g.nn + 1) * _ := Int.mul_le_mul_of_nonneg_left hf.up (by unfold Gr.nn; omega)
    omega
  have h3 : sm g.es.length (fun i => (g.ed i).w * X i) ≤ sm g.es.length (fun i => 64 * 16804000000000) := sm_le fun i hi => by
    have hw := (h.es _ (Gr.edge h hi).1).2.2.1
    have a : (g.ed i).w * X i ≤ (g.ed i).w * 16804000000000 := Int.mul_le_mul_of_nonneg_left (hX2 i hi) hw.1
    have hw : 0 ≤ (g.ed i).w ∧ (g.ed i).w ≤ 64 := hw
    omega
  rw [sm_const] at h3
  have h4 := hsm.m
  omega

/-- A flow changed along a cycle. -/
def minBack (fl : List Int) (c : List Arc) : Int := c.foldl (fun n a => if a.b = true ∧ (n < 0 ∨ fl.getD a.e.toNat 0 < n) then fl.getD a.e.toNat 0 else n) (-1)
def push1 (n : Int) (fl : List Int) (a : Arc) : List Int := fl.set a.e.toNat (if a.b = true then fl.getD a.e.toNat 0 - n else fl.getD a.e.toNat 0 + n)
def pushTo (n : Int) (fl : List Int) (c : List Arc) (i : Nat) : List Int := (c.take i).foldl (push1 n) fl
def cancel (fl : List Int) (c : List Arc) : List Int := pushTo (minBack fl c) fl c c.length
def minTo (fl : List Int) (c : List Arc) (i : Nat) : Int := (c.take i).foldl (fun n a => if a.b = true ∧ (n < 0 ∨ fl.getD a.e.toNat 0 < n) then fl.getD a.e.toNat 0 else n) (-1)
theorem minTo_succ {fl : List Int} {c : List Arc} {i : Nat} (h : i < c.length) : minTo fl c (i + 1) = if (c.getD i default).b = true ∧ (minTo fl c i < 0 ∨ fl.getD (c.getD i default).e.toNat 0 < minTo fl c i) then fl.getD (c.getD i default).e.toNat 0 else minTo fl c i := by
  unfold minTo
  rw [List.take_add_one, List.getElem?_eq_getElem h, List.foldl_append, getD_lt _ _ h]
  rfl
theorem pushTo_succ {n : Int} {fl : List Int} {c : List Arc} {i : Nat} (h : i < c.length) : pushTo n fl c (i + 1) = push1 n (pushTo n fl c i) (c.getD i default) := by
  unfold pushTo
  rw [List.take_add_one, List.getElem?_eq_getElem h, List.foldl_append, getD_lt _ _ h]
  rfl
theorem minTo_spec {fl : List Int} {c : List Arc} (h0 : ∀ i, i < c.length → 0 ≤ fl.getD (c.getD i default).e.toNat 0) : ∀ i, i ≤ c.length →
    (minTo fl c i = -1 ∧ ∀ k, k < i → (c.getD k default).b = false) ∨ (0 ≤ minTo fl c i ∧ (∃ k, k < i ∧ (c.getD k default).b = true ∧ minTo fl c i = fl.getD (c.getD k default).e.toNat 0) ∧ ∀ k, k < i → (c.getD k default).b = true → minTo fl c i ≤ fl.getD (c.getD k default).e.toNat 0)
  | 0, _ => .inl ⟨rfl, fun k hk => by omega⟩
  | i + 1, hi => by
    have h1 := h0 i (by omega)
    rw [minTo_succ (by omega)]
    rcases minTo_spec h0 i (by omega) with ⟨hm, hall⟩ | ⟨hm, ⟨k, hk, hb, he⟩, hall⟩
    · by_cases hb : (c.getD i default).b = true
      · rw [if_pos ⟨hb, .inl (by omega)⟩]
        refine .inr ⟨h1, ⟨i, by omega, hb, rfl⟩, fun k hk hbk => ?_⟩
        by_cases e : k = i
        · subst e; exact Int.le_refl _
        · rw [hall k (by omega)] at hbk; cases hbk
      · rw [if_neg (fun h => hb h.1)]
        refine .inl ⟨hm, fun k hk => ?_⟩
        by_cases e : k = i
        · subst e; simpa using hb
        · exact hall k (by omega)
    · by_cases hb2 : (c.getD i default).b = true ∧ (minTo fl c i < 0 ∨ fl.getD (c.getD i default).e.toNat 0 < minTo fl c i)
      · rw [if_pos hb2]
        refine .inr ⟨h1, ⟨i, by omega, hb2.1, rfl⟩, fun k hk hbk => ?_⟩
        by_cases e : k = i
        · subst e; exact Int.le_refl _
        · have := hall k (by omega) hbk; omega
      · rw [if_neg hb2]
        refine .inr ⟨hm, ⟨k, by omega, hb, he⟩, fun k' hk' hbk => ?_⟩
        by_cases e : k' = i
        · subst e
          by_cases h2 : fl.getD (c.getD k' default).e.toNat 0 < minTo fl c k'
          · exact absurd ⟨hbk, .inr h2⟩ hb2
          · omega
        · exact hall k' (by omega) hbk
theorem minBack_eq (fl : List Int) (c : List Arc) : minBack fl c = minTo fl c c.length := by unfold minBack minTo; rw [List.take_length]

/-- The changes, arc by arc. -/
theorem net_arc {g : Gr} {fl : List Int} {a : Arc} (ha : a ∈ (g.net fl).as) : a.e.toNat < g.es.length ∧ a.e = ((a.e.toNat : Nat) : Int) ∧ (a.b = false → a = g.fwd a.e.toNat) ∧ (a.b = true → 0 < fl.getD a.e.toNat 0 ∧ a = g.bwd a.e.toNat) := by
  obtain ⟨i, hi, ha⟩ := mem_net.1 ha
  rcases ha with rfl | ⟨hf, rfl⟩
  · exact ⟨by show ((i : Nat) : Int).toNat < _; omega, rfl, fun _ => rfl, (fun h => by cases h)⟩
  · exact ⟨by show ((i : Nat) : Int).toNat < _; omega, rfl, (fun h => by cases h), fun _ => ⟨hf, rfl⟩⟩
structure PInv (g : Gr) (fl : List Int) (c : List Arc) (n : Int) (i : Nat) : Prop where
  len : (pushTo n fl c i).length = g.es.length
  lo : ∀ j, j < g.es.length → fn fl j - n ≤ fn (pushTo n fl c i) j
  lo' : ∀ j, j < g.es.length → (∀ k, k < i → c.getD k default ≠ g.bwd j) → fn fl j ≤ fn (pushTo n fl c i) j
  hi : ∀ j, j < g.es.length → fn (pushTo n fl c i) j ≤ fn fl j + n
  hi' : ∀ j, j < g.es.length → (∀ k, k < i → c.getD k default ≠ g.fwd j) → fn (pushTo n fl c i) j ≤ fn fl j
  sum : ∀ φ : Nat → Int, sm g.es.length (fun j => fn (pushTo n fl c i) j * φ j) = sm g.es.length (fun j => fn fl j * φ j) + n * sm i (fun k => if (c.getD k default).b = true then -φ (c.getD k default).e.toNat else φ (c.getD k default).e.toNat)
theorem sm_set {m : Nat} {l : List Int} {j : Nat} {x : Int} (hl : l.length = m) (hj : j < m) (φ : Nat → Int) : sm m (fun i => fn (l.set j x) i * φ i) = sm m (fun i => fn l i * φ i) + (x - fn l j) * φ j := by
  have hat : ∀ i, fn (l.set j x) i = if j = i then x else fn l i := fun i => getD_set (by omega)
  have key : ∀ k, sm k (fun i => fn (l.set j x) i * φ i) = sm k (fun i => fn l i * φ i) + if j < k then (x - fn l j) * φ j else 0 := by
    intro k
    induction k with
    | zero => simp [sm]
    | succ k ih =>
      show sm k (fun i => fn (l.set j x) i * φ i) + fn (l.set j x) k * φ k = (sm k (fun i => fn l i * φ i) + fn l k * φ k) + _
      rw [ih, hat]
      by_cases e : j = k
      · subst e
        rw [if_neg (Nat.lt_irrefl _), if_pos rfl, if_pos (by omega), Int.sub_mul]; omega
      · rw [if_neg e]
        by_cases h : j < k
        · rw [if_pos h, if_pos (by omega)]; omega
        · rw [if_neg h, if_neg (by omega)]; omega
  rw [key, if_pos hj]
theorem pinv {g : Gr} {fl : List Int} {c : List Arc} (hc : NCyc g fl c) (hf : fl.length = g.es.length) {n : Int} (hn : 0 ≤ n) : ∀ i, i ≤ c.length → PInv g fl c n i
  | 0, _ => ⟨hf, fun j hj => by show _ ≤ fn fl j; omega, fun j hj _ => Int.le_refl _, fun j hj => by show fn fl j ≤ _; omega, fun j hj _ => Int.le_refl _, fun φ => by show sm g.es.length (fun j => fn fl j * φ j) = _ + n * 0; omega⟩
  | i + 1, hi => by
    have I := pinv hc hf hn i (by omega)
    obtain ⟨a, ha⟩ : ∃ a, c.getD i default = a := ⟨_, rfl⟩
    obtain ⟨he, heq, hfw, hbw⟩ := net_arc (ha ▸ hc.mem i (by omega))
    obtain ⟨x, hx⟩ : ∃ x, (if a.b = true then (pushTo n fl c i).getD a.e.toNat 0 - n else (pushTo n fl c i).getD a.e.toNat 0 + n) = x := ⟨_, rfl⟩
    have hst : pushTo n fl c (i + 1) = (pushTo n fl c i).set a.e.toNat x := by rw [pushTo_succ (by omega), ha]; unfold push1; rw [hx]
    have hat : ∀ j, fn (pushTo n fl c (i + 1)) j = if a.e.toNat = j then x else fn (pushTo n fl c i) j := fun j => by rw [hst]; exact getD_set (by rw [I.len]; exact he)
    have hnb : a.b = true → ∀ k, k < i → c.getD k default ≠ g.bwd a.e.toNat := fun hb k hk e => by
      have := hc.dist k i hk (by omega)
      rw [ha, e, ← (hbw hb).2] at this
      exact this rfl
    have hnf : a.b = false → ∀ k, k < i → c.getD k default ≠ g.fwd a.e.toNat := fun hb k hk e => by
      have := hc.dist k i hk (by omega)
      rw [ha, e, ← hfw hb] at this
      exact this rfl
    have hxv : x = fn (pushTo n fl c i) a.e.toNat + (if a.b = true then -n else n) := by rw [← hx]; unfold fn; split <;> omega
    have h1 := I.lo _ he
    have h2 := I.hi _ he
    refine ⟨by rw [hst]; simpa using I.len, fun j hj => ?_, fun j hj hk => ?_, fun j hj => ?_, fun j hj hk => ?_, fun φ => ?_⟩
    · rw [hat]
      split
      · rename_i e; subst e
        rw [hxv]
        split
        · rename_i hb; have := I.lo' _ he (hnb hb); omega
        · omega
      · exact I.lo j hj
    · rw [hat]
      split
      · rename_i e; subst e
        have h3 := I.lo' _ he fun k hk' => hk k (by omega)
        rw [hxv]
        split
        · rename_i hb; exact absurd (by rw [ha]; exact (hbw hb).2) (hk i (by omega))
        · omega
      · exact I.lo' j hj fun k hk' => hk k (by omega)
    · rw [hat]
      split
      · rename_i e; subst e
        rw [hxv]
        split
        · omega
        · rename_i hb; have := I.hi' _ he (hnf (by simpa using hb)); omega
      · exact I.hi j hj
    · rw [hat]
      split
      · rename_i e; subst e
        have h3 := I.hi' _ he fun k hk' => hk k (by omega)
        rw [hxv]
        split
        · omega
        · rename_i hb; exact absurd (by rw [ha]; exact hfw (by simpa using hb)) (hk i (by omega))
      · exact I.hi' j hj fun k hk' => hk k (by omega)
    · rw [hst, sm_set I.len he, I.sum φ]
      show _ = _ + n * (sm i _ + (if (c.getD i default).b = true then -φ (c.getD i default).e.toNat else φ (c.getD i default).e.toNat))
      rw [ha, hxv, Int.mul_add, show ∀ u v : Int, u + v - u = v from fun u v => by omega]
      split
      · rw [Int.neg_mul, Int.mul_neg]; omega
      · omega
theorem flow_step {g : Gr} (h : g.OK) (hs : g.short = false) {fl : List Int} (hf : Flow g fl) {c : List Arc} (hc : NCyc g fl c) : 0 < minBack fl c ∧ (∃ j, j < g.es.length ∧ minBack fl c = fn fl j) ∧ Flow g (cancel fl c) ∧ sm g.es.length (fun i => fn fl i * g.byE i) + 1 ≤ sm g.es.length (fun i => fn (cancel fl c) i * g.byE i) := by
  have harc := fun i hi => net_arc (hc.mem i hi)
  have h0 : ∀ i, i < c.length → 0 ≤ fl.getD (c.getD i default).e.toNat 0 := fun i hi => hf.pos _ (harc i hi).1
  obtain ⟨ib, hib, hbb⟩ := ncyc_back h hs hc
  rcases minTo_spec h0 c.length (Nat.le_refl _) with ⟨_, hall⟩ | ⟨hm, ⟨k, hk, hb, he⟩, hall⟩
  · rw [hall ib hib] at hbb; cases hbb
  · rw [← minBack_eq] at hm he
    have hall : ∀ k, k < c.length → (c.getD k default).b = true → minBack fl c ≤ fl.getD (c.getD k default).e.toNat 0 := fun k h1 h2 => by rw [minBack_eq]; exact hall k h1 h2
    have hpos : 0 < minBack fl c := by rw [he]; exact ((harc k hk).2.2.2 hb).1
    have I := pinv hc hf.len hm c.length (Nat.le_refl _)
    have hsgn : ∀ φ : Nat → Int, sm c.length (fun k => if (c.getD k default).b = true then -φ (c.getD k default).e.toNat else φ (c.getD k default).e.toNat) = sm c.length (fun k => if (c.getD k default).b = true then -φ (c.getD k default).e.toNat else φ (c.getD k default).e.toNat) := fun _ => rfl
    have e1 : ∀ p : Nat → Int, sm c.length (fun k => if (c.getD k default).b = true then -g.df p (c.getD k default).e.toNat else g.df p (c.getD k default).e.toNat) = 0 := fun p => by
      rw [← hc.tele p]
      refine sm_eq fun i hi => ?_
      obtain ⟨_, _, h3, h4⟩ := harc i hi
      by_cases hb : (c.getD i default).b = true
      · rw [if_pos hb]
        have := (h4 hb).2
        generalize (c.getD i default) = a at this ⊢
        rw [this]
        show -(p (g.ed a.e.toNat).t.toNat - p (g.ed a.e.toNat).f.toNat) = p (g.ed a.e.toNat).f.toNat - p (g.ed a.e.toNat).t.toNat
        omega
      · rw [if_neg hb]
        have := h3 (by simpa using hb)
        generalize (c.getD i default) = a at this ⊢
        rw [this]
        rfl
    have e2 : sm c.length (fun k => if (c.getD k default).b = true then -g.byE (c.getD k default).e.toNat else g.byE (c.getD k default).e.toNat) = sm c.length (fun i => (c.getD i default).by_) := sm_eq fun i hi => by
      obtain ⟨_, _, h3, h4⟩ := harc i hi
      by_cases hb : (c.getD i default).b = true
      · rw [if_pos hb]
        have := (h4 hb).2
        generalize (c.getD i default) = a at this ⊢
        rw [this]
        rfl
      · rw [if_neg hb]
        have := h3 (by simpa using hb)
        generalize (c.getD i default) = a at this ⊢
        rw [this]
        rfl
    have hup : sm g.es.length (fun i => fn fl i * g.byE i) + 1 ≤ sm g.es.length (fun i => fn (cancel fl c) i * g.byE i) := by
      have := I.sum g.byE
      unfold cancel
      rw [this, e2]
      have h9 := hc.grow
      have h10 : 1 * sm c.length (fun i => (c.getD i default).by_) ≤ minBack fl c * sm c.length (fun i => (c.getD i default).by_) := Int.mul_le_mul_of_nonneg_right hpos (by omega)
      omega
    refine ⟨hpos, ⟨_, (harc k hk).1, he⟩, ⟨I.len, fun j hj => ?_, fun p => ?_, ?_⟩, hup⟩
    · by_cases hx : ∃ k, k < c.length ∧ c.getD k default = g.bwd j
      · obtain ⟨k, hk, e⟩ := hx
        have h1 := I.lo j hj
        have h2 := hall k hk (by rw [e]; rfl)
        rw [e] at h2
        have h2 : minBack fl c ≤ fn fl j := by show _ ≤ fl.getD j 0; simpa [Gr.bwd] using h2
        unfold cancel
        omega
      · have := I.lo' j hj fun k hk e => hx ⟨k, hk, e⟩
        have := hf.pos j hj
        unfold cancel
        omega
    · unfold cancel
      rw [I.sum (g.df p), e1, hf.same p]; simp
    · have := hf.up; omega

/-! The plan of least memory. -/
def Gr.mkP (g : Gr) : Nat → List Int → Option (List Int)
  | 0, _ => none
  | k + 1, fl => if (g.net fl).run.node < 0 then some (g.net fl).run.at_ else g.mkP k (cancel fl (g.net fl).cyc)
theorem mk_some {g : Gr} (h : g.OK) (hs : g.short = false) : ∀ (k : Nat) (fl : List Int), Flow g fl → sm g.es.length (fun i => (g.ed i).w * g.df (fn g.low) i) - sm g.es.length (fun i => fn fl i * g.byE i) < (k : Int) → ∃ at_, g.mkP k fl = some at_
  | 0, fl, hf, hk => by
    have hl := low_spec h hs
    have h1 : 0 ≤ sm g.es.length (fun i => fn fl i * g.sl (fn g.low) i) := sm_nonneg fun i hi => Int.mul_nonneg (hf.pos i hi) (hl.feas.sl i hi)
    have h2 : sm g.es.length (fun i => fn fl i * g.df (fn g.low) i) = sm g.es.length (fun i => fn fl i * g.sl (fn g.low) i) + sm g.es.length (fun i => fn fl i * g.byE i) := by
      rw [← sm_add]
      exact sm_eq fun i _ => by rw [sl_df, Int.mul_sub]; omega
    rw [← hf.same] at hk
    omega
  | k + 1, fl, hf, hk => by
    show ∃ at_, (if (g.net fl).run.node < 0 then some (g.net fl).run.at_ else g.mkP k (cancel fl (g.net fl).cyc)) = some at_
    split
    · exact ⟨_, rfl⟩
    · rename_i hq
      obtain ⟨_, _, hf', hup⟩ := flow_step h hs hf (ncyc_of h hq)
      exact mk_some h hs k _ hf' (by omega)
theorem mk_more {g : Gr} : ∀ {k : Nat} {fl at_ : List Int}, g.mkP k fl = some at_ → ∀ d, g.mkP (k + d) fl = some at_
  | 0, _, _, h, _ => by cases h
  | k + 1, fl, at_, h, d => by
    rw [show k + 1 + d = (k + d) + 1 by omega]
    have h : (if (g.net fl).run.node < 0 then some (g.net fl).run.at_ else g.mkP k (cancel fl (g.net fl).cyc)) = some at_ := h
    show (if (g.net fl).run.node < 0 then some (g.net fl).run.at_ else g.mkP (k + d) (cancel fl (g.net fl).cyc)) = some at_
    split at h
    · rename_i hq; rw [if_pos hq]; exact h
    · rename_i hq; rw [if_neg hq]; exact mk_more h d
/-- Positions of least memory; of these, the least. -/
structure Best (g : Gr) (at_ : List Int) : Prop where
  len : at_.length = g.lat.length
  feas : Feas g (fn at_)
  min : ∀ p, Feas g p → g.mem (fn at_) ≤ g.mem p
  least : ∀ p, Feas g p → g.mem p = g.mem (fn at_) → ∀ v, v < g.lat.length → fn at_ v ≤ p v
theorem mem_flow {g : Gr} {fl : List Int} (hf : Flow g fl) (p : Nat → Int) : g.mem p = sm g.es.length (fun i => fn fl i * g.sl p i) + (sm g.es.length (fun i => fn fl i * g.byE i) - sm g.es.length (fun i => (g.ed i).w * g.byE i)) := by
  have a : ∀ u : Nat → Int, sm g.es.length (fun i => u i * g.df p i) = sm g.es.length (fun i => u i * g.sl p i) + sm g.es.length (fun i => u i * g.byE i) := fun u => by
    rw [← sm_add]
    exact sm_eq fun i _ => by rw [sl_df, Int.mul_sub]; omega
  have h1 := a (fn fl)
  have h2 := a fun i => (g.ed i).w
  have h3 := hf.same p
  have h4 : g.mem p = sm g.es.length (fun i => (g.ed i).w * g.sl p i) := sm_eq fun i _ => Int.mul_comm _ _
  omega
theorem quiet_best {g : Gr} (h : g.OK) {fl : List Int} (hf : Flow g fl) (hq : (g.net fl).run.node < 0) : Best g (g.net fl).run.at_ := by
  obtain ⟨h1, h2, h3, h4⟩ := quiet_pos h hq
  have h5 := meets_iff.1 h3
  have hz : sm g.es.length (fun i => fn fl i * g.sl (fn (g.net fl).run.at_) i) = 0 := by
    rw [show (0 : Int) = sm g.es.length (fun _ => 0) from sm_zero.symm]
    refine sm_eq fun i hi => ?_
    obtain ⟨a, b⟩ := h5 i hi
    have hp := hf.pos i hi
    by_cases e : 0 < fl.getD i 0
    · have e1 : g.sl (g.net fl).run.A i = 0 := by have := b e; omega
      show fn fl i * g.sl (g.net fl).run.A i = 0
      rw [e1]; simp
    · have e1 : fn fl i = 0 := by show fl.getD i 0 = 0; have hp : 0 ≤ fl.getD i 0 := hp; omega
      rw [e1]; simp
  have hm := mem_flow hf
  refine ⟨h1, h2, fun p hp => ?_, fun p hp he => ?_⟩
  · have := sm_nonneg (m := g.es.length) (f := fun i => fn fl i * g.sl p i) fun i hi => Int.mul_nonneg (hf.pos i hi) (hp.sl i hi)
    rw [hm, hm p, hz]; omega
  · rw [hm, hm (fn (g.net fl).run.at_), hz] at he
    have hs0 : sm g.es.length (fun i => fn fl i * g.sl p i) ≤ 0 := by omega
    refine h4 p hp.pos (meets_iff.2 fun i hi => ⟨hp.sl i hi, fun hpos => ?_⟩)
    have := sm_one_neg (f := fun i => fn fl i * g.sl p i) (fun i hi => Int.mul_nonneg (hf.pos i hi) (hp.sl i hi)) hs0 hi
    rcases Int.mul_eq_zero.1 this with e | e
    · have e : fl.getD i 0 = 0 := e
      omega
    · omega
theorem mk_best {g : Gr} (h : g.OK) (hs : g.short = false) : ∀ {k : Nat} {fl at_ : List Int}, Flow g fl → g.mkP k fl = some at_ → Best g at_
  | 0, _, _, _, e => by cases e
  | k + 1, fl, at_, hf, e => by
    have e : (if (g.net fl).run.node < 0 then some (g.net fl).run.at_ else g.mkP k (cancel fl (g.net fl).cyc)) = some at_ := e
    split at e
    · rename_i hq; injection e with e; subst e; exact quiet_best h hf hq
    · rename_i hq; exact mk_best h hs (flow_step h hs hf (ncyc_of h hq)).2.2.1 e
theorem best_unique {g : Gr} {a b : List Int} (ha : Best g a) (hb : Best g b) : a = b := ext_fn (ha.len.trans hb.len.symm) fun k hk => by
  have e1 := ha.min _ hb.feas
  have e2 := hb.min _ ha.feas
  have h1 := ha.least _ hb.feas (by omega) k (by rw [← ha.len]; exact hk)
  have h2 := hb.least _ ha.feas (by omega) k (by rw [← ha.len]; exact hk)
  omega
/-- Its positions; none, where there is none. -/
noncomputable def Gr.best (g : Gr) : List Int := open Classical in if h : ∃ k a, g.mkP k g.ws = some a then h.choose_spec.choose else []
theorem best_of {g : Gr} {k : Nat} {a : List Int} (h : g.mkP k g.ws = some a) : g.best = a := by
  have hx : ∃ k a, g.mkP k g.ws = some a := ⟨k, a, h⟩
  unfold Gr.best
  rw [dif_pos hx]
  have h2 := hx.choose_spec.choose_spec
  generalize hx.choose_spec.choose = b at h2 ⊢
  generalize hx.choose = k' at h2
  have e1 := mk_more h k'
  have e2 := mk_more h2 k
  rw [Nat.add_comm, e1] at e2
  injection e2 with e2
  exact e2.symm
theorem best_mk {g : Gr} (h : g.OK) (hs : g.short = false) : ∃ k, g.mkP k g.ws = some g.best ∧ Best g g.best := by
  obtain ⟨a, ha⟩ := mk_some h hs ((sm g.es.length (fun i => (g.ed i).w * g.df (fn g.low) i) - sm g.es.length (fun i => fn g.ws i * g.byE i)).toNat + 1) g.ws (flow_ws h) (by omega)
  have e := best_of ha
  exact ⟨_, by rw [e]; exact ha, by rw [e]; exact mk_best h hs (flow_ws h) ha⟩

end Go.Proofs.Ytkieenlidehdgaa
