/- What is reached in a graph: by a search in depth, and by rounds over the edges. No program in sight. -/
import Derived.Test.YtcnikeonaklkoaaGraph3
namespace Go.Proofs.Ytcnikeonaklkoaa
set_option linter.unusedVariables false
set_option linter.unusedSimpArgs false

abbrev seen (l : List Bool) (v : Nat) : Bool := l.getD v false
theorem seen_set {l : List Bool} {v u : Nat} (h : v < l.length) : seen (l.set v true) u = if v = u then true else seen l u := by
  simp only [seen, List.getD_eq_getElem?_getD, List.getElem?_set]
  by_cases e : v = u
  · subst e; simp [h]
  · simp [e]
theorem seen_lt {l : List Bool} {v : Nat} (h : seen l v = true) : v < l.length := by
  by_cases hv : v < l.length
  · exact hv
  · simp [seen, List.getD_eq_getElem?_getD, List.getElem?_eq_none (by omega : l.length ≤ v)] at h
def unseen : List Bool → Nat
  | [] => 0
  | b :: r => (if b = true then 0 else 1) + unseen r
theorem unseen_le : ∀ l : List Bool, unseen l ≤ l.length
  | [] => Nat.le_refl _
  | b :: r => by
    have := unseen_le r
    simp only [unseen, List.length_cons]
    split <;> omega
theorem unseen_none : ∀ (l : List Bool), unseen l = 0 → ∀ v, v < l.length → seen l v = true
  | [], _, v, hv => by simp at hv
  | b :: r, h, v, hv => by
    simp only [unseen] at h
    by_cases hb : b = true
    · rw [if_pos hb] at h
      cases v with
      | zero => simpa [seen] using hb
      | succ v =>
        have := unseen_none r (by omega) v (by simpa using hv)
        simpa [seen] using this
    · rw [if_neg hb] at h; omega
theorem unseen_set : ∀ (l : List Bool) (v : Nat), v < l.length → seen l v = false → unseen (l.set v true) + 1 = unseen l
  | [], v, hv, _ => by simp at hv
  | b :: r, 0, _, h => by
    have hb : b = false := by simpa [seen] using h
    subst hb
    simp [unseen]; omega
  | b :: r, v + 1, hv, h => by
    have := unseen_set r v (by simpa using hv) (by simpa [seen] using h)
    simp only [List.set_cons_succ, unseen]
    omega
theorem unseen_mono : ∀ (l m : List Bool), l.length = m.length → (∀ v, seen l v = true → seen m v = true) → unseen m ≤ unseen l
  | [], [], _, _ => Nat.le_refl _
  | [], _ :: _, h, _ => by simp at h
  | _ :: _, [], h, _ => by simp at h
  | a :: l, b :: m, h, hm => by
    have ih := unseen_mono l m (by simpa using h) fun v hv => by simpa [seen] using hm (v + 1) (by simpa [seen] using hv)
    have h0 : a = true → b = true := fun e => by simpa [seen] using hm 0 (by simpa [seen] using e)
    simp only [unseen]
    cases a <;> cases b <;> simp_all <;> omega
theorem unseen_replicate (n : Nat) : unseen (List.replicate n false) = n := by
  induction n with
  | zero => rfl
  | succ n ih => rw [List.replicate_succ, unseen, ih]; simp; omega
theorem seen_ext {l m : List Bool} (h : l.length = m.length) (he : ∀ v, seen l v = seen m v) : l = m := by
  apply List.ext_getElem h
  intro i h1 h2
  have := he i
  simpa [seen, List.getD_eq_getElem?_getD, h1, h2] using this

/-! The ways of a graph. -/
inductive Gr.Way (g : Gr) (v : Nat) : Nat → Prop
  | refl : Gr.Way g v v
  | step {e : Edg} (he : e ∈ g.es) (h : Gr.Way g v e.f.toNat) : Gr.Way g v e.t.toNat
theorem Gr.Way.trans {g : Gr} {a b c : Nat} (h : g.Way a b) (k : g.Way b c) : g.Way a c := by
  induction k with
  | refl => exact h
  | step he _ ih => exact .step he ih
theorem Gr.Way.lt {g : Gr} (ho : g.OK) {a b : Nat} (h : g.Way a b) (ha : a < g.lat.length) : b < g.lat.length := by
  cases h with
  | refl => exact ha
  | step he _ =>
    obtain ⟨j, hj, rfl⟩ := List.mem_iff_getElem.1 he
    have := (Gr.edge ho hj).2.2.1
    rwa [getD_lt _ _ hj] at this
def Gr.Closed (g : Gr) (l : List Bool) : Prop := ∀ e ∈ g.es, seen l e.f.toNat = true → seen l e.t.toNat = true
theorem Gr.Closed.way {g : Gr} {l : List Bool} (h : g.Closed l) {a b : Nat} (w : g.Way a b) (ha : seen l a = true) : seen l b = true := by
  induction w with
  | refl => exact ha
  | step he _ ih => exact h _ he ih

/-! In depth. -/
def Gr.nextTo (g : Gr) : Nat → List (List Int)
  | 0 => List.replicate g.lat.length []
  | i + 1 => (g.nextTo i).set (g.es.getD i default).f.toNat ((g.nextTo i).getD (g.es.getD i default).f.toNat [] ++ [(g.es.getD i default).t])
abbrev Gr.next (g : Gr) : List (List Int) := g.nextTo g.es.length
theorem nextTo_len (g : Gr) : ∀ i, (g.nextTo i).length = g.lat.length
  | 0 => by simp [Gr.nextTo]
  | i + 1 => by simp [Gr.nextTo, nextTo_len g i]
theorem nextTo_row {g : Gr} : ∀ i v, ((g.nextTo i).getD v []).length ≤ i
  | 0, v => by
    have : (g.nextTo 0).getD v [] = [] := by simp [Gr.nextTo, List.getD_eq_getElem?_getD, List.getElem?_replicate]; split <;> rfl
    rw [this]; exact Nat.le_refl _
  | i + 1, v => by
    have a := nextTo_row (g := g) i v
    show (((g.nextTo i).set (g.es.getD i default).f.toNat ((g.nextTo i).getD (g.es.getD i default).f.toNat [] ++ [(g.es.getD i default).t])).getD v []).length ≤ _
    by_cases hf : (g.es.getD i default).f.toNat < (g.nextTo i).length
    · rw [getDL_set hf]
      split
      · have b := nextTo_row (g := g) i (g.es.getD i default).f.toNat
        rw [List.length_append, List.length_singleton]; omega
      · omega
    · rw [List.set_eq_of_length_le (by omega)]; omega
theorem mem_nextTo {g : Gr} (h : g.OK) : ∀ i, i ≤ g.es.length → ∀ v t, t ∈ (g.nextTo i).getD v [] ↔ ∃ j, j < i ∧ (g.es.getD j default).f.toNat = v ∧ (g.es.getD j default).t = t
  | 0, _, v, t => by
    have : (g.nextTo 0).getD v [] = [] := by simp [Gr.nextTo, List.getD_eq_getElem?_getD, List.getElem?_replicate]; split <;> rfl
    rw [this]
    constructor
    · intro h; cases h
    · rintro ⟨j, hj, _⟩; omega
  | i + 1, hi, v, t => by
    have ih := mem_nextTo h i (by omega)
    have hf : (g.es.getD i default).f.toNat < (g.nextTo i).length := by rw [nextTo_len]; exact (Gr.edge h (by omega)).2.1
    show t ∈ ((g.nextTo i).set (g.es.getD i default).f.toNat ((g.nextTo i).getD (g.es.getD i default).f.toNat [] ++ [(g.es.getD i default).t])).getD v [] ↔ _
    rw [getDL_set hf]
    by_cases hv : (g.es.getD i default).f.toNat = v
    · rw [if_pos hv, List.mem_append, hv, ih v t, List.mem_singleton]
      constructor
      · rintro (⟨j, h1, h2, h3⟩ | h1)
        · exact ⟨j, by omega, h2, h3⟩
        · exact ⟨i, by omega, hv, h1.symm⟩
      · rintro ⟨j, h1, h2, h3⟩
        by_cases hj : j = i
        · subst hj; exact .inr h3.symm
        · exact .inl ⟨j, by omega, h2, h3⟩
    · rw [if_neg hv, ih v t]
      constructor
      · rintro ⟨j, h1, h2, h3⟩; exact ⟨j, by omega, h2, h3⟩
      · rintro ⟨j, h1, h2, h3⟩
        exact ⟨j, by
          by_cases hj : j = i
          · subst hj; exact absurd h2 hv
          · omega, h2, h3⟩
theorem mem_next {g : Gr} (h : g.OK) {v : Nat} {t : Int} : t ∈ g.next.getD v [] ↔ ∃ e ∈ g.es, e.f.toNat = v ∧ e.t = t := by
  rw [mem_nextTo h _ (Nat.le_refl _)]
  constructor
  · rintro ⟨j, h1, h2, h3⟩; exact ⟨_, (Gr.edge h h1).1, h2, h3⟩
  · rintro ⟨e, h1, h2, h3⟩
    obtain ⟨j, hj, rfl⟩ := List.mem_iff_getElem.1 h1
    exact ⟨j, hj, by rw [getD_lt _ _ hj]; exact h2, by rw [getD_lt _ _ hj]; exact h3⟩

abbrev DS := List Bool × List Int
def dfs (rows : List (List Int)) : Nat → DS → Nat → DS
  | 0, s, _ => s
  | k + 1, s, v => if seen s.1 v = true then s else (rows.getD v []).foldl (fun s t => dfs rows k s t.toNat) (s.1.set v true, s.2 ++ [(v : Int)])
def dfsTo (rows : List (List Int)) (k : Nat) (s : DS) (l : List Int) (i : Nat) : DS := (l.take i).foldl (fun s t => dfs rows k s t.toNat) s
theorem dfsTo_succ (rows : List (List Int)) (k : Nat) (s : DS) {l : List Int} {i : Nat} (h : i < l.length) : dfsTo rows k s l (i + 1) = dfs rows k (dfsTo rows k s l i) (l.getD i 0).toNat := by
  unfold dfsTo
  rw [List.take_add_one, List.getElem?_eq_getElem h, List.foldl_append, getD_lt _ _ h]
  rfl
/-- What a part of the search does: F, from where the new ones are reached. -/
structure DR (rows : List (List Int)) (F : Nat → Prop) (s s' : DS) : Prop where
  len : s'.1.length = s.1.length
  mono : ∀ u, seen s.1 u = true → seen s'.1 u = true
  closed : ∀ u, seen s'.1 u = true → seen s.1 u = false → ∀ t ∈ rows.getD u [], seen s'.1 t.toNat = true
  way : ∀ u, seen s'.1 u = true → seen s.1 u = false → F u
  nodes : ∃ L : List Int, s'.2 = s.2 ++ L ∧ L.Nodup ∧ ∀ x, x ∈ L ↔ ∃ u : Nat, x = (u : Int) ∧ seen s'.1 u = true ∧ seen s.1 u = false
theorem DR.refl {rows : List (List Int)} {F : Nat → Prop} (s : DS) : DR rows F s s :=
  ⟨rfl, fun _ h => h, fun u h k => (by rw [h] at k; cases k), fun u h k => (by rw [h] at k; cases k), ⟨[], by simp, List.nodup_nil, fun x => ⟨fun h => (by cases h), fun ⟨u, _, h, k⟩ => (by rw [h] at k; cases k)⟩⟩⟩
theorem DR.trans {rows : List (List Int)} {F : Nat → Prop} {a b c : DS} (h : DR rows F a b) (k : DR rows F b c) : DR rows F a c := by
  have hb : ∀ u, seen b.1 u = true ∨ seen b.1 u = false := fun u => by cases seen b.1 u <;> simp
  refine ⟨k.len.trans h.len, fun u hu => k.mono u (h.mono u hu), fun u hu hn t ht => ?_, fun u hu hn => ?_, ?_⟩
  · rcases hb u with h1 | h1
    · exact k.mono _ (h.closed u h1 hn t ht)
    · exact k.closed u hu h1 t ht
  · rcases hb u with h1 | h1
    · exact h.way u h1 hn
    · exact k.way u hu h1
  · obtain ⟨L, e1, n1, m1⟩ := h.nodes
    obtain ⟨K, e2, n2, m2⟩ := k.nodes
    refine ⟨L ++ K, by rw [e2, e1, List.append_assoc], List.nodup_append.2 ⟨n1, n2, fun x hx y hy e => ?_⟩, fun x => ?_⟩
    · subst e
      obtain ⟨u, rfl, h1, _⟩ := (m1 x).1 hx
      obtain ⟨v, hv, _, h2⟩ := (m2 _).1 hy
      have : u = v := by omega
      subst this
      rw [h1] at h2; cases h2
    · rw [List.mem_append, m1, m2]
      constructor
      · rintro (⟨u, rfl, h1, h2⟩ | ⟨u, rfl, h1, h2⟩)
        · exact ⟨u, rfl, k.mono u h1, h2⟩
        · refine ⟨u, rfl, h1, ?_⟩
          cases hx : seen a.1 u with
          | false => rfl
          | true => rw [h.mono u hx] at h2; cases h2
      · rintro ⟨u, rfl, h1, h2⟩
        rcases hb u with h3 | h3
        · exact .inl ⟨u, rfl, h3, h2⟩
        · exact .inr ⟨u, rfl, h1, h3⟩
theorem DR.weaken {rows : List (List Int)} {F G : Nat → Prop} {a b : DS} (h : DR rows F a b) (hf : ∀ u, F u → G u) : DR rows G a b := ⟨h.len, h.mono, h.closed, fun u x y => hf u (h.way u x y), h.nodes⟩
theorem DR.unseen {rows : List (List Int)} {F : Nat → Prop} {a b : DS} (h : DR rows F a b) : unseen b.1 ≤ unseen a.1 := unseen_mono _ _ h.len.symm h.mono
theorem dfs_spec {rows : List (List Int)} {n : Nat} (hr : ∀ v, ∀ t ∈ rows.getD v [], 0 ≤ t ∧ t.toNat < n) {F : Nat → Nat → Prop} (hF : ∀ v, F v v) (hS : ∀ v, ∀ t ∈ rows.getD v [], ∀ u, F t.toNat u → F v u) :
    ∀ (k : Nat) (s : DS) (v : Nat), s.1.length = n → v < n → unseen s.1 ≤ k → DR rows (F v) s (dfs rows k s v) ∧ seen (dfs rows k s v).1 v = true
  | 0, s, v, hl, hv, hk => ⟨DR.refl s, show seen s.1 v = true from unseen_none s.1 (by omega) v (by omega)⟩
  | k + 1, s, v, hl, hv, hk => by
    by_cases hs : seen s.1 v = true
    · have e : dfs rows (k + 1) s v = s := if_pos hs
      rw [e]; exact ⟨DR.refl s, hs⟩
    · have e : dfs rows (k + 1) s v = (rows.getD v []).foldl (fun s t => dfs rows k s t.toNat) (s.1.set v true, s.2 ++ [(v : Int)]) := if_neg hs
      have hsf : seen s.1 v = false := by simpa using hs
      have hu := unseen_set s.1 v (by omega) hsf
      rw [e]
      obtain ⟨s1, hs1⟩ : ∃ s1 : DS, (s.1.set v true, s.2 ++ [(v : Int)]) = s1 := ⟨_, rfl⟩
      have h1l : s1.1.length = n := by rw [← hs1]; simpa using hl
      have h1u : unseen s1.1 ≤ k := by rw [← hs1]; show unseen (s.1.set v true) ≤ k; omega
      have h1s : ∀ u, seen s1.1 u = if v = u then true else seen s.1 u := fun u => by rw [← hs1]; exact seen_set (by omega)
      rw [hs1]
      have key : ∀ (l : List Int) (a : DS), (∀ t ∈ l, t ∈ rows.getD v []) → a.1.length = n → unseen a.1 ≤ k →
          DR rows (F v) a (l.foldl (fun s t => dfs rows k s t.toNat) a) ∧ ∀ t ∈ l, seen (l.foldl (fun s t => dfs rows k s t.toNat) a).1 t.toNat = true := by
        intro l
        induction l with
        | nil => intro a _ _ _; exact ⟨DR.refl a, fun t ht => by cases ht⟩
        | cons t l ih =>
          intro a ht ha hka
          have htm := ht t (by simp)
          obtain ⟨d1, d2⟩ := dfs_spec hr hF hS k a t.toNat ha (hr v t htm).2 hka
          obtain ⟨d3, d4⟩ := ih (dfs rows k a t.toNat) (fun t h => ht t (by simp [h])) (by rw [d1.len, ha]) (by have := d1.unseen; omega)
          refine ⟨(d1.weaken (hS v t htm)).trans d3, fun x hx => ?_⟩
          rcases List.mem_cons.1 hx with rfl | hx
          · exact d3.mono _ d2
          · exact d4 x hx
      obtain ⟨d, dt⟩ := key (rows.getD v []) s1 (fun t h => h) h1l h1u
      generalize (rows.getD v []).foldl (fun s t => dfs rows k s t.toNat) s1 = s' at d dt ⊢
      have hv' : seen s'.1 v = true := d.mono v (by rw [h1s, if_pos rfl])
      refine ⟨⟨by rw [d.len, h1l, hl], fun u hu => d.mono u (by rw [h1s]; split <;> first | rfl | exact hu), fun u hu hn t ht => ?_, fun u hu hn => ?_, ?_⟩, hv'⟩
      · by_cases huv : v = u
        · subst huv; exact dt t ht
        · exact d.closed u hu (by rw [h1s, if_neg huv]; exact hn) t ht
      · by_cases huv : v = u
        · subst huv; exact hF v
        · exact d.way u hu (by rw [h1s, if_neg huv]; exact hn)
      · obtain ⟨L, e1, n1, m1⟩ := d.nodes
        refine ⟨(v : Int) :: L, by rw [e1, ← hs1]; simp, List.nodup_cons.2 ⟨fun hm => ?_, n1⟩, fun x => ?_⟩
        · obtain ⟨u, hu, _, h2⟩ := (m1 _).1 hm
          have : v = u := by omega
          subst this
          rw [h1s, if_pos rfl] at h2; cases h2
        · rw [List.mem_cons, m1]
          constructor
          · rintro (rfl | ⟨u, rfl, h1, h2⟩)
            · exact ⟨v, rfl, hv', hsf⟩
            · refine ⟨u, rfl, h1, ?_⟩
              rw [h1s] at h2
              split at h2
              · cases h2
              · exact h2
          · rintro ⟨u, rfl, h1, h2⟩
            by_cases huv : v = u
            · subst huv; exact .inl rfl
            · exact .inr ⟨u, rfl, h1, by rw [h1s, if_neg huv]; exact h2⟩
theorem dfs_more {rows : List (List Int)} {n : Nat} (hr : ∀ v, ∀ t ∈ rows.getD v [], 0 ≤ t ∧ t.toNat < n) {k : Nat} {s : DS} {v : Nat} (hl : s.1.length = n) (hv : v < n) (hk : unseen s.1 ≤ k) : (dfs rows k s v).1.length = n ∧ unseen (dfs rows k s v).1 ≤ unseen s.1 := by
  have h := (dfs_spec hr (F := fun _ _ => True) (fun _ => trivial) (fun _ _ _ _ _ => trivial) k s v hl hv hk).1
  exact ⟨by rw [h.len, hl], h.unseen⟩

theorem dfs_count {rows : List (List Int)} {n : Nat} (hr : ∀ v, ∀ t ∈ rows.getD v [], 0 ≤ t ∧ t.toNat < n) : ∀ (k : Nat) (s : DS) (v : Nat), s.1.length = n → v < n → unseen s.1 ≤ k → (dfs rows k s v).2.length + unseen (dfs rows k s v).1 = s.2.length + unseen s.1
  | 0, s, v, hl, hv, hk => rfl
  | k + 1, s, v, hl, hv, hk => by
    by_cases hs : seen s.1 v = true
    · have e : dfs rows (k + 1) s v = s := if_pos hs
      rw [e]
    · have e : dfs rows (k + 1) s v = (rows.getD v []).foldl (fun s t => dfs rows k s t.toNat) (s.1.set v true, s.2 ++ [(v : Int)]) := if_neg hs
      have hu := unseen_set s.1 v (by omega) (by simpa using hs)
      rw [e]
      have key : ∀ (l : List Int) (a : DS), (∀ t ∈ l, t ∈ rows.getD v []) → a.1.length = n → unseen a.1 ≤ k → (l.foldl (fun s t => dfs rows k s t.toNat) a).2.length + unseen (l.foldl (fun s t => dfs rows k s t.toNat) a).1 = a.2.length + unseen a.1 := by
        intro l
        induction l with
        | nil => intro a _ _ _; rfl
        | cons t l ih =>
          intro a ht ha hka
          have htm := hr v t (ht t (by simp))
          obtain ⟨h1, h2⟩ := dfs_more hr (v := t.toNat) ha htm.2 hka
          rw [List.foldl_cons, ih (dfs rows k a t.toNat) (fun t h => ht t (by simp [h])) h1 (by omega)]
          exact dfs_count hr k a t.toNat ha htm.2 hka
      rw [key _ _ (fun t h => h) (by simpa using hl) (by show unseen (s.1.set v true) ≤ k; omega)]
      show (s.2 ++ [(v : Int)]).length + unseen (s.1.set v true) = _
      rw [List.length_append, List.length_singleton]; omega
theorem dfsTo_more {rows : List (List Int)} {n : Nat} (hr : ∀ v, ∀ t ∈ rows.getD v [], 0 ≤ t ∧ t.toNat < n) {k v : Nat} {s : DS} (hl : s.1.length = n) (hk : unseen s.1 ≤ k) : ∀ i, i ≤ (rows.getD v []).length → (dfsTo rows k s (rows.getD v []) i).1.length = n ∧ unseen (dfsTo rows k s (rows.getD v []) i).1 ≤ k ∧
    (dfsTo rows k s (rows.getD v []) i).2.length + unseen (dfsTo rows k s (rows.getD v []) i).1 = s.2.length + unseen s.1
  | 0, _ => ⟨hl, hk, rfl⟩
  | i + 1, hi => by
    obtain ⟨h1, h2, h3⟩ := dfsTo_more hr (v := v) hl hk i (by omega)
    have ht : (rows.getD v []).getD i 0 ∈ rows.getD v [] := by rw [getD_lt _ _ (by omega : i < (rows.getD v []).length)]; exact List.getElem_mem _
    have hb := hr v _ ht
    rw [dfsTo_succ _ _ _ (by omega)]
    obtain ⟨a, b⟩ := dfs_more hr (v := ((rows.getD v []).getD i 0).toNat) h1 hb.2 h2
    exact ⟨a, by omega, by rw [dfs_count hr k _ _ h1 hb.2 h2]; exact h3⟩
theorem dfs_new {rows : List (List Int)} {k v : Nat} {s : DS} (hs : seen s.1 v = false) : dfs rows (k + 1) s v = dfsTo rows k (s.1.set v true, s.2 ++ [(v : Int)]) (rows.getD v []) (rows.getD v []).length := by
  unfold dfsTo
  rw [List.take_length]
  exact if_neg (by rw [hs]; decide)
theorem dfs_old {rows : List (List Int)} {v : Nat} {s : DS} (hs : seen s.1 v = true) : ∀ k, dfs rows k s v = s
  | 0 => rfl
  | _ + 1 => if_pos hs

/-- What is reached from a node. -/
def Gr.reachS (g : Gr) (v : Nat) : DS := dfs g.next g.lat.length (List.replicate g.lat.length false, []) v
theorem next_ok {g : Gr} (h : g.OK) : ∀ v, ∀ t ∈ g.next.getD v [], 0 ≤ t ∧ t.toNat < g.lat.length := fun v t ht => by
  obtain ⟨e, he, _, rfl⟩ := (mem_next h).1 ht
  obtain ⟨j, hj, rfl⟩ := List.mem_iff_getElem.1 he
  have := Gr.edge h hj
  rw [getD_lt _ _ hj] at this
  exact ⟨this.2.2.2.2, this.2.2.1⟩
theorem reachS_spec {g : Gr} (h : g.OK) {v : Nat} (hv : v < g.lat.length) : (g.reachS v).1.length = g.lat.length ∧ (∀ u, seen (g.reachS v).1 u = true ↔ g.Way v u) ∧ (g.reachS v).2.Nodup ∧ ∀ x, x ∈ (g.reachS v).2 ↔ ∃ u : Nat, x = (u : Int) ∧ g.Way v u := by
  have hF : ∀ u, seen (List.replicate g.lat.length false) u = false := fun u => by simp [seen, List.getD_eq_getElem?_getD, List.getElem?_replicate]; split <;> rfl
  obtain ⟨d, dv⟩ := dfs_spec (next_ok h) (F := g.Way) (fun v => .refl) (fun a t ht u hu => by
    obtain ⟨e, he, hf, rfl⟩ := (mem_next h).1 ht
    exact (Gr.Way.step he (hf ▸ .refl)).trans hu) g.lat.length (List.replicate g.lat.length false, []) v (by simp) hv (by rw [unseen_replicate]; exact Nat.le_refl _)
  have hs : ∀ u, seen (g.reachS v).1 u = true ↔ g.Way v u := fun u => by
    constructor
    · intro hu; exact d.way u hu (hF u)
    · intro w
      refine Gr.Closed.way (l := (g.reachS v).1) (fun e he hf => ?_) w dv
      exact d.closed e.f.toNat hf (hF _) e.t ((mem_next h).2 ⟨e, he, rfl, rfl⟩)
  obtain ⟨L, e1, n1, m1⟩ := d.nodes
  have e2 : (g.reachS v).2 = L := by
    show (dfs g.next g.lat.length (List.replicate g.lat.length false, []) v).2 = L
    rw [e1]; simp
  refine ⟨by rw [show (g.reachS v).1.length = _ from d.len]; simp, hs, by rw [e2]; exact n1, fun x => ?_⟩
  rw [e2, m1]
  constructor
  · rintro ⟨u, rfl, h1, _⟩; exact ⟨u, rfl, (hs u).1 h1⟩
  · rintro ⟨u, rfl, h1⟩; exact ⟨u, rfl, (hs u).2 h1, hF u⟩

/-! By rounds. -/
def Gr.markE (g : Gr) (l : List Bool) (i : Nat) : List Bool := if seen l (g.es.getD i default).f.toNat = true then l.set (g.es.getD i default).t.toNat true else l
def Gr.markTo (g : Gr) (l : List Bool) : Nat → List Bool
  | 0 => l
  | i + 1 => g.markE (g.markTo l i) i
def Gr.markR (g : Gr) (v : Nat) : Nat → List Bool
  | 0 => (List.replicate g.lat.length false).set v true
  | k + 1 => g.markTo (g.markR v k) g.es.length
theorem markE_len (g : Gr) (l : List Bool) (i : Nat) : (g.markE l i).length = l.length := by unfold Gr.markE; split <;> simp
theorem markTo_len (g : Gr) (l : List Bool) : ∀ i, (g.markTo l i).length = l.length
  | 0 => rfl
  | i + 1 => (markE_len g _ i).trans (markTo_len g l i)
theorem markR_len (g : Gr) (v : Nat) : ∀ k, (g.markR v k).length = g.lat.length
  | 0 => by simp [Gr.markR]
  | k + 1 => (markTo_len g _ _).trans (markR_len g v k)
theorem markE_seen {g : Gr} (h : g.OK) {l : List Bool} (hl : l.length = g.lat.length) {i : Nat} (hi : i < g.es.length) (u : Nat) : seen (g.markE l i) u = true ↔ seen l u = true ∨ (seen l (g.es.getD i default).f.toNat = true ∧ (g.es.getD i default).t.toNat = u) := by
  have ht : (g.es.getD i default).t.toNat < l.length := by rw [hl]; exact (Gr.edge h hi).2.2.1
  unfold Gr.markE
  by_cases hf : seen l (g.es.getD i default).f.toNat = true
  · rw [if_pos hf, seen_set ht]
    by_cases e : (g.es.getD i default).t.toNat = u
    · rw [if_pos e]; exact ⟨fun _ => .inr ⟨hf, e⟩, fun _ => rfl⟩
    · rw [if_neg e]; exact ⟨.inl, fun x => x.elim id fun y => absurd y.2 e⟩
  · rw [if_neg hf]; exact ⟨.inl, fun x => x.elim id fun y => absurd y.1 hf⟩
theorem markTo_mono {g : Gr} (h : g.OK) {l : List Bool} (hl : l.length = g.lat.length) {u : Nat} (hu : seen l u = true) : ∀ i, i ≤ g.es.length → seen (g.markTo l i) u = true
  | 0, _ => hu
  | i + 1, hi => (markE_seen h (by rw [markTo_len, hl]) (by omega) u).2 (.inl (markTo_mono h hl hu i (by omega)))
theorem markTo_edge {g : Gr} (h : g.OK) {l : List Bool} (hl : l.length = g.lat.length) {j : Nat} (hf : seen l (g.es.getD j default).f.toNat = true) : ∀ i, i ≤ g.es.length → j < i → seen (g.markTo l i) (g.es.getD j default).t.toNat = true
  | 0, _, hj => by omega
  | i + 1, hi, hj => by
    by_cases e : j = i
    · subst e
      exact (markE_seen h (by rw [markTo_len, hl]) (by omega) _).2 (.inr ⟨markTo_mono h hl hf j (by omega), rfl⟩)
    · exact (markE_seen h (by rw [markTo_len, hl]) (by omega) _).2 (.inl (markTo_edge h hl hf i (by omega) (by omega)))
theorem markTo_way {g : Gr} (h : g.OK) {l : List Bool} (hl : l.length = g.lat.length) {v : Nat} (hw : ∀ u, seen l u = true → g.Way v u) : ∀ i, i ≤ g.es.length → ∀ u, seen (g.markTo l i) u = true → g.Way v u
  | 0, _, u, hu => hw u hu
  | i + 1, hi, u, hu => by
    rcases (markE_seen h (by rw [markTo_len, hl]) (by omega) u).1 hu with h1 | ⟨h1, h2⟩
    · exact markTo_way h hl hw i (by omega) u h1
    · rw [← h2]; exact .step (Gr.edge h (by omega)).1 (markTo_way h hl hw i (by omega) _ h1)
theorem markTo_closed {g : Gr} (h : g.OK) {l : List Bool} (hl : l.length = g.lat.length) (hc : g.Closed l) : ∀ i, i ≤ g.es.length → ∀ u, seen (g.markTo l i) u = true → seen l u = true
  | 0, _, u, hu => hu
  | i + 1, hi, u, hu => by
    rcases (markE_seen h (by rw [markTo_len, hl]) (by omega) u).1 hu with h1 | ⟨h1, h2⟩
    · exact markTo_closed h hl hc i (by omega) u h1
    · rw [← h2]; exact hc _ (Gr.edge h (by omega)).1 (markTo_closed h hl hc i (by omega) _ h1)
theorem markR_spec {g : Gr} (h : g.OK) {v : Nat} (hv : v < g.lat.length) : ∀ k, seen (g.markR v k) v = true ∧ (∀ u, seen (g.markR v k) u = true → g.Way v u) ∧ (g.Closed (g.markR v k) ∨ unseen (g.markR v k) + k + 1 ≤ g.lat.length)
  | 0 => by
    have hl : v < (List.replicate g.lat.length false).length := by simpa using hv
    have hF : ∀ u, seen (List.replicate g.lat.length false) u = false := fun u => by simp [seen, List.getD_eq_getElem?_getD, List.getElem?_replicate]; split <;> rfl
    refine ⟨by show seen ((List.replicate g.lat.length false).set v true) v = true; rw [seen_set hl, if_pos rfl], fun u hu => ?_, .inr ?_⟩
    · have hu : seen ((List.replicate g.lat.length false).set v true) u = true := hu
      rw [seen_set hl] at hu
      split at hu
      · rename_i e; subst e; exact .refl
      · rw [hF] at hu; cases hu
    · have := unseen_set (List.replicate g.lat.length false) v hl (hF v)
      rw [unseen_replicate] at this
      show unseen ((List.replicate g.lat.length false).set v true) + 0 + 1 ≤ _
      omega
  | k + 1 => by
    obtain ⟨h1, h2, h3⟩ := markR_spec h hv k
    have hl := markR_len g v k
    refine ⟨markTo_mono h hl h1 _ (Nat.le_refl _), markTo_way h hl h2 _ (Nat.le_refl _), ?_⟩
    by_cases hc : g.Closed (g.markR v k)
    · left
      intro e he hf
      have hf' := markTo_closed h hl hc _ (Nat.le_refl _) _ hf
      exact markTo_mono h hl (hc e he hf') _ (Nat.le_refl _)
    · rcases h3 with h3 | h3
      · exact absurd h3 hc
      · right
        have hx : ∃ e ∈ g.es, seen (g.markR v k) e.f.toNat = true ∧ seen (g.markR v k) e.t.toNat = false := by
          refine Classical.byContradiction fun hn => hc fun e he hf => ?_
          cases ht : seen (g.markR v k) e.t.toNat with
          | true => rfl
          | false => exact absurd ⟨e, he, hf, ht⟩ hn
        obtain ⟨e, he, hf, ht⟩ := hx
        obtain ⟨j, hj, rfl⟩ := List.mem_iff_getElem.1 he
        have hg : g.es.getD j default = g.es[j] := getD_lt _ _ hj
        have hm := markTo_edge h hl (j := j) (by rw [hg]; exact hf) g.es.length (Nat.le_refl _) hj
        rw [hg] at hm
        have htl : g.es[j].t.toNat < g.lat.length := by have := (Gr.edge h hj).2.2.1; rwa [hg] at this
        have hs := unseen_set (g.markR v k) g.es[j].t.toNat (by omega) ht
        have hmn := unseen_mono ((g.markR v k).set g.es[j].t.toNat true) (g.markR v (k + 1)) (by rw [List.length_set, hl, markR_len]) fun u hu => by
          rw [seen_set (by omega)] at hu
          split at hu
          · rename_i e; subst e; exact hm
          · exact markTo_mono h hl hu _ (Nat.le_refl _)
        omega
theorem markR_end {g : Gr} (h : g.OK) {v : Nat} (hv : v < g.lat.length) (u : Nat) : seen (g.markR v g.lat.length) u = true ↔ g.Way v u := by
  obtain ⟨h1, h2, h3⟩ := markR_spec h hv g.lat.length
  rcases h3 with h3 | h3
  · exact ⟨h2 u, fun w => h3.way w h1⟩
  · omega

/-! The two lists. -/
def markL (l : List Bool) (i : Nat) : List Int := List.map (fun u : Nat => (u : Int)) ((List.range i).filter fun u => seen l u)
theorem markL_succ (l : List Bool) (i : Nat) : markL l (i + 1) = markL l i ++ if seen l i = true then [(i : Int)] else [] := by
  unfold markL
  rw [List.range_succ, List.filter_append, List.map_append]
  congr 1
  by_cases h : seen l i = true
  · rw [if_pos h, List.filter_cons_of_pos h]; rfl
  · rw [if_neg h, List.filter_cons_of_neg h]; rfl
theorem mem_markL {l : List Bool} {i : Nat} {x : Int} : x ∈ markL l i ↔ ∃ u : Nat, x = (u : Int) ∧ u < i ∧ seen l u = true := by
  unfold markL
  simp only [List.mem_map, List.mem_filter, List.mem_range]
  constructor
  · rintro ⟨u, ⟨a, b⟩, rfl⟩; exact ⟨u, rfl, a, b⟩
  · rintro ⟨u, rfl, a, b⟩; exact ⟨u, ⟨a, b⟩, rfl⟩
theorem markL_pair (l : List Bool) (i : Nat) : (markL l i).Pairwise (· < ·) := by
  unfold markL
  rw [List.pairwise_map]
  refine (List.Pairwise.filter _ (List.pairwise_lt_range)).imp fun h => by omega
def sortL (xs : List Int) : List Int := xs.mergeSort fun x y => decide (x ≤ y)
theorem sort_mark {L : List Int} {l : List Bool} {n : Nat} (hn : L.Nodup) (hm : ∀ x, x ∈ L ↔ x ∈ markL l n) : sortL L = markL l n := by
  have hp : (sortL L).Perm L := List.mergeSort_perm _ _
  have hs : (sortL L).Pairwise (fun x y => decide (x ≤ y) = true) := List.pairwise_mergeSort (fun a b c h1 h2 => by simp only [decide_eq_true_eq] at *; omega) (fun a b => by simp only [Bool.or_eq_true, decide_eq_true_eq]; omega) _
  refine List.Perm.eq_of_pairwise (le := fun x y => decide (x ≤ y) = true) (fun a b _ _ h1 h2 => by simp only [decide_eq_true_eq] at *; omega) hs ((markL_pair l n).imp fun h => by simp only [decide_eq_true_eq]; omega) ?_
  refine hp.trans ((List.perm_ext_iff_of_nodup hn ((markL_pair l n).imp fun h e => by omega)).2 hm)
def Gr.reachL (g : Gr) (v : Nat) : List Int := markL (g.markR v g.lat.length) g.lat.length
theorem mem_reachL {g : Gr} (h : g.OK) {v : Nat} (hv : v < g.lat.length) {x : Int} : x ∈ g.reachL v ↔ ∃ u : Nat, x = (u : Int) ∧ g.Way v u := by
  unfold Gr.reachL
  rw [mem_markL]
  constructor
  · rintro ⟨u, rfl, _, h2⟩; exact ⟨u, rfl, (markR_end h hv u).1 h2⟩
  · rintro ⟨u, rfl, w⟩; exact ⟨u, rfl, w.lt h hv, (markR_end h hv u).2 w⟩
theorem reach_sorted {g : Gr} (h : g.OK) {v : Nat} (hv : v < g.lat.length) : sortL (g.reachS v).2 = g.reachL v := by
  obtain ⟨_, _, hn, hm⟩ := reachS_spec h hv
  refine sort_mark hn fun x => ?_
  rw [hm]; exact (mem_reachL h hv).symm
theorem reachS_pos {g : Gr} (h : g.OK) {v : Nat} (hv : v < g.lat.length) : 0 < (g.reachS v).2.length := by
  obtain ⟨_, _, _, hm⟩ := reachS_spec h hv
  exact List.length_pos_iff.2 fun e => by
    have := (hm v).2 ⟨v, rfl, .refl⟩
    rw [e] at this; cases this
theorem reachS_len {g : Gr} (h : g.OK) {v : Nat} (hv : v < g.lat.length) : (g.reachS v).2.length ≤ g.lat.length := by
  have h1 : (sortL (g.reachS v).2).length = (g.reachS v).2.length := by simp [sortL]
  rw [← h1, reach_sorted h hv]
  unfold Gr.reachL markL
  rw [List.length_map]
  exact Nat.le_trans (List.length_filter_le _ _) (by simp)

end Go.Proofs.Ytcnikeonaklkoaa
