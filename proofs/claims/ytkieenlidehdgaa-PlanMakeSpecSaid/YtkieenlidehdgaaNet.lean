/- Longest ways by rounds over arcs, in plain Lean: least positions, or a cycle along which they grow. No program in sight. -/
import Derived.Test.YtkieenlidehdgaaGraph3
namespace Go.Proofs.Ytkieenlidehdgaa
set_option linter.unusedVariables false
set_option linter.unusedSimpArgs false

structure Arc where
  f : Int
  t : Int
  by_ : Int
  e : Int
  b : Bool
instance : Inhabited Arc := ⟨⟨0, 0, 0, 0, false⟩⟩
structure LP where
  at_ : List Int
  lst : List Arc
  node : Int
abbrev LP.A (s : LP) (v : Nat) : Int := s.at_.getD v 0
abbrev LP.L (s : LP) (v : Nat) : Arc := s.lst.getD v default
def lrelax (s : LP) (a : Arc) : LP := if s.A a.t.toNat < s.A a.f.toNat + a.by_ then ⟨s.at_.set a.t.toNat (s.A a.f.toNat + a.by_), s.lst.set a.t.toNat a, a.t⟩ else s
structure Net where
  n : Nat
  as : List Arc
def Net.passTo (N : Net) (s : LP) (i : Nat) : LP := (N.as.take i).foldl lrelax { s with node := -1 }
def Net.pass (N : Net) (s : LP) : LP := N.passTo s N.as.length
theorem Net.passTo_succ (N : Net) (s : LP) {i : Nat} (h : i < N.as.length) : N.passTo s (i + 1) = lrelax (N.passTo s i) (N.as.getD i default) := by
  unfold Net.passTo
  rw [List.take_add_one, List.getElem?_eq_getElem h, List.foldl_append, getD_lt _ _ h]
  rfl
def Net.rounds (N : Net) : Nat → LP → LP
  | 0, s => s
  | k + 1, s => if (N.pass s).node < 0 then N.pass s else N.rounds k (N.pass s)
def Net.start (N : Net) : LP := ⟨List.replicate N.n 0, List.replicate N.n default, -1⟩
def Net.run (N : Net) : LP := N.rounds (N.n + 1) N.start
structure Net.OK (N : Net) : Prop where
  as : ∀ a ∈ N.as, (0 ≤ a.f ∧ a.f < N.n) ∧ (0 ≤ a.t ∧ a.t < N.n) ∧ -1052672 ≤ a.by_ ∧ a.by_ ≤ 1052672

theorem getDA_set {l : List Arc} {i j : Nat} {x : Arc} (h : i < l.length) : (l.set i x).getD j default = if i = j then x else l.getD j default := by
  simp only [List.getD_eq_getElem?_getD, List.getElem?_set]
  by_cases hij : i = j
  · subst hij; simp [h]
  · simp [hij]

/-- Round r, the arcs below i having been looked at; 'st': the round in which a node was reached last. -/
structure LInv (N : Net) (r i : Nat) (s : LP) (st : Nat → Nat) : Prop where
  lenf : s.at_.length = N.n
  lenb : s.lst.length = N.n
  le : ∀ v, st v ≤ r
  set : ∀ v, v < N.n → 0 < st v → s.L v ∈ N.as ∧ (s.L v).t.toNat = v ∧ s.A v ≤ s.A (s.L v).f.toNat + (s.L v).by_ ∧ st v ≤ st (s.L v).f.toNat + 1
  rel : ∀ j, j < N.as.length → (j < i → s.A (N.as.getD j default).f.toNat + (N.as.getD j default).by_ ≤ s.A (N.as.getD j default).t.toNat ∨ r ≤ st (N.as.getD j default).f.toNat) ∧
    (i ≤ j → r ≤ 1 ∨ s.A (N.as.getD j default).f.toNat + (N.as.getD j default).by_ ≤ s.A (N.as.getD j default).t.toNat ∨ r ≤ st (N.as.getD j default).f.toNat + 1)
  last : (s.node = -1 ∧ ∀ v, st v < r) ∨ ∃ v, v < N.n ∧ s.node = (v : Int) ∧ st v = r
  low : ∀ v, 0 ≤ s.A v
  top : ∀ v, s.A v ≤ (((r - 1) * N.as.length + i : Nat) : Int) * 1052672
  kind : ∀ v, v < N.n → s.L v ∈ N.as ∨ s.L v = default
  tau : ∃ (τ : Nat → Nat) (c : Nat), (∀ v, τ v ≤ c) ∧ ∀ v, v < N.n → 0 < st v → τ v ≤ τ (s.L v).f.toNat → s.A v + 1 ≤ s.A (s.L v).f.toNat + (s.L v).by_

theorem Net.arc {N : Net} (h : N.OK) {j : Nat} (hj : j < N.as.length) : N.as.getD j default ∈ N.as ∧ (N.as.getD j default).f.toNat < N.n ∧ (N.as.getD j default).t.toNat < N.n ∧ 0 ≤ (N.as.getD j default).f ∧ 0 ≤ (N.as.getD j default).t := by
  have hm : N.as.getD j default ∈ N.as := by rw [getD_lt _ _ hj]; exact List.getElem_mem hj
  have := h.as _ hm
  exact ⟨hm, by omega, by omega, by omega, by omega⟩

theorem linv_step {N : Net} (h : N.OK) {r i : Nat} {s : LP} {st : Nat → Nat} (hr : 1 ≤ r) (hi : i < N.as.length) (I : LInv N r i s st) : ∃ st', LInv N r (i + 1) (lrelax s (N.as.getD i default)) st' := by
  obtain ⟨e, he⟩ : ∃ e, N.as.getD i default = e := ⟨_, rfl⟩
  obtain ⟨hm, hf, ht, hf0, ht0⟩ := he ▸ Net.arc h hi
  have hW := (h.as e hm).2.2
  rw [he]
  unfold lrelax
  have htop : ∀ v, s.A v ≤ (((r - 1) * N.as.length + (i + 1) : Nat) : Int) * 1052672 := fun v => by have := I.top v; omega
  by_cases hd : s.A e.t.toNat < s.A e.f.toNat + e.by_
  · rw [if_pos hd]
    obtain ⟨d, hde⟩ : ∃ d, s.A e.f.toNat + e.by_ = d := ⟨_, rfl⟩
    rw [hde] at hd ⊢
    have hF : ∀ v, LP.A ⟨s.at_.set e.t.toNat d, s.lst.set e.t.toNat e, e.t⟩ v = if e.t.toNat = v then d else s.A v := fun v => getD_set (by rw [I.lenf]; exact ht)
    have hB : ∀ v, LP.L ⟨s.at_.set e.t.toNat d, s.lst.set e.t.toNat e, e.t⟩ v = if e.t.toNat = v then e else s.L v := fun v => getDA_set (by rw [I.lenb]; exact ht)
    have hle : ∀ v, s.A v ≤ LP.A ⟨s.at_.set e.t.toNat d, s.lst.set e.t.toNat e, e.t⟩ v := fun v => by
      rw [hF]; split
      · rename_i hv; rw [← hv]; omega
      · exact Int.le_refl _
    refine ⟨fun v => if e.t.toNat = v then r else st v, ?_⟩
    refine { lenf := by simpa using I.lenf, lenb := by simpa using I.lenb, le := fun v => by split; exact Nat.le_refl _; exact I.le v, set := fun v hv hs => ?_, rel := fun j hj => ?_, last := .inr ⟨e.t.toNat, ht, by show e.t = _; omega, by simp⟩, low := fun v => Int.le_trans (I.low v) (hle v), top := fun v => ?_, kind := fun v hv => ?_, tau := ?_ }
    · by_cases hv' : e.t.toNat = v
      · rw [hB, if_pos hv']
        refine ⟨hm, hv', ?_, ?_⟩
        · rw [hF v, if_pos hv']
          have := hle e.f.toNat
          omega
        · rw [if_pos hv']
          by_cases h2 : e.t.toNat = e.f.toNat
          · rw [if_pos h2]; omega
          · rw [if_neg h2]
            have h3 := (I.rel i hi).2 (Nat.le_refl _)
            rw [he] at h3
            rcases h3 with h3 | h3 | h3
            · omega
            · omega
            · omega
      · rw [if_neg hv'] at hs
        obtain ⟨h1, h2, h3, h4⟩ := I.set v hv hs
        rw [hB, if_neg hv']
        refine ⟨h1, h2, ?_, ?_⟩
        · rw [hF v, if_neg hv']
          have := hle (s.L v).f.toNat
          omega
        · rw [if_neg hv']
          split
          · have := I.le v; omega
          · exact h4
    · have hFj : (¬ e.t.toNat = (N.as.getD j default).f.toNat) → s.A (N.as.getD j default).f.toNat + (N.as.getD j default).by_ ≤ s.A (N.as.getD j default).t.toNat →
          LP.A ⟨s.at_.set e.t.toNat d, s.lst.set e.t.toNat e, e.t⟩ (N.as.getD j default).f.toNat + (N.as.getD j default).by_ ≤ LP.A ⟨s.at_.set e.t.toNat d, s.lst.set e.t.toNat e, e.t⟩ (N.as.getD j default).t.toNat := fun hne h1 => by
        rw [hF (N.as.getD j default).f.toNat, if_neg hne]
        have := hle (N.as.getD j default).t.toNat
        omega
      by_cases hne : e.t.toNat = (N.as.getD j default).f.toNat
      · refine ⟨fun _ => .inr (by rw [if_pos hne]; exact Nat.le_refl _), fun _ => .inr (.inr (by rw [if_pos hne]; omega))⟩
      · simp only [if_neg hne]
        refine ⟨fun hji => ?_, fun hji => ?_⟩
        · by_cases hji' : j = i
          · subst hji'
            rw [he] at hne ⊢
            left
            rw [hF e.t.toNat, if_pos rfl, hF e.f.toNat, if_neg hne]
            omega
          · rcases (I.rel j hj).1 (by omega) with h1 | h1
            · exact .inl (hFj hne h1)
            · exact .inr h1
        · rcases (I.rel j hj).2 (by omega) with h1 | h1 | h1
          · exact .inl h1
          · exact .inr (.inl (hFj hne h1))
          · exact .inr (.inr h1)
    · rw [hF]
      split
      · have := I.top e.f.toNat; omega
      · exact htop v
    · rw [hB]
      split
      · exact .inl hm
      · exact I.kind v hv
    · obtain ⟨τ, c, hc, ht2⟩ := I.tau
      refine ⟨fun v => if e.t.toNat = v then c + 1 else τ v, c + 1, fun v => by dsimp only; split; exact Nat.le_refl _; have := hc v; omega, fun v hv hs hτ => ?_⟩
      dsimp only at hs hτ
      by_cases hv' : e.t.toNat = v
      · rw [hB, if_pos hv'] at hτ ⊢
        rw [if_pos hv'] at hτ
        rw [hF v, if_pos hv']
        by_cases h2 : e.t.toNat = e.f.toNat
        · rw [hF, if_pos h2]
          rw [← h2] at hde
          have hvv : s.A e.t.toNat = s.A e.f.toNat := by rw [← h2]
          omega
        · rw [if_neg h2] at hτ
          have := hc e.f.toNat; omega
      · rw [if_neg hv'] at hs hτ
        rw [hB, if_neg hv'] at hτ ⊢
        rw [hF v, if_neg hv']
        by_cases h2 : e.t.toNat = (s.L v).f.toNat
        · rw [hF, if_pos h2]
          have h3 := (I.set v hv hs).2.2.1
          rw [← h2] at h3
          omega
        · rw [if_neg h2] at hτ
          rw [hF, if_neg h2]
          exact ht2 v hv hs hτ
  · rw [if_neg hd]
    refine ⟨st, { lenf := I.lenf, lenb := I.lenb, le := I.le, set := I.set, rel := fun j hj => ⟨fun hji => ?_, fun hji => (I.rel j hj).2 (by omega)⟩, last := I.last, low := I.low, top := htop, kind := I.kind, tau := I.tau }⟩
    by_cases hji' : j = i
    · subst hji'
      rw [he]; left; omega
    · exact (I.rel j hj).1 (by omega)

theorem linv_start {N : Net} : LInv N 1 0 N.start fun _ => 0 := by
  have hF : ∀ v, N.start.A v = 0 := fun v => by simp [Net.start, LP.A, List.getD_eq_getElem?_getD, List.getElem?_replicate]; split <;> rfl
  have hL : ∀ v, N.start.L v = default := fun v => by simp [Net.start, LP.L, List.getD_eq_getElem?_getD, List.getElem?_replicate]; split <;> rfl
  exact { lenf := by simp [Net.start], lenb := by simp [Net.start], le := fun _ => by omega, set := fun v _ h => by omega, rel := fun j _ => ⟨fun h => by omega, fun _ => .inl (by omega)⟩, last := .inl ⟨rfl, fun _ => by omega⟩, low := fun v => by rw [hF]; omega, top := fun v => by rw [hF]; simp, kind := fun v _ => .inr (hL v), tau := ⟨fun _ => 0, 0, fun _ => Nat.le_refl _, fun v _ h => by omega⟩ }
theorem linv_next {N : Net} {r : Nat} {s : LP} {st : Nat → Nat} (hr : 1 ≤ r) (I : LInv N r N.as.length s st) : LInv N (r + 1) 0 { s with node := -1 } st :=
  { lenf := I.lenf, lenb := I.lenb, le := fun v => by have := I.le v; omega, set := I.set
    rel := fun j hj => ⟨fun h => by omega, fun _ => .inr (by
      rcases (I.rel j hj).1 hj with h | h
      · exact .inl h
      · exact .inr (by omega))⟩
    last := .inl ⟨rfl, fun v => by have := I.le v; omega⟩, low := I.low, kind := I.kind, tau := I.tau
    top := fun v => by
      have := I.top v
      have e : (r + 1 - 1) * N.as.length + 0 = (r - 1) * N.as.length + N.as.length := by
        obtain ⟨k, rfl⟩ : ∃ k, r = k + 1 := ⟨r - 1, by omega⟩
        simp [Nat.succ_mul]
      rw [e]; exact this }
theorem linv_passTo {N : Net} (h : N.OK) {r : Nat} {s : LP} {st : Nat → Nat} (hr : 1 ≤ r) (I : LInv N r 0 { s with node := -1 } st) : ∀ i, i ≤ N.as.length → ∃ st', LInv N r i (N.passTo s i) st'
  | 0, _ => ⟨st, by unfold Net.passTo; simpa using I⟩
  | i + 1, hi => by
    obtain ⟨st', I'⟩ := linv_passTo h hr I i (by omega)
    rw [N.passTo_succ s (by omega)]
    exact linv_step h hr (by omega) I'

/-- Positions that meet all arcs. -/
def Net.Meets (N : Net) (p : Nat → Int) : Prop := ∀ a ∈ N.as, p a.f.toNat + a.by_ ≤ p a.t.toNat
theorem lrounds_end {N : Net} (h : N.OK) : ∀ (k r : Nat) (s : LP) (st : Nat → Nat), 1 ≤ r → 1 ≤ k → LInv N r 0 { s with node := -1 } st →
    (((N.rounds k s).node = -1 ∧ N.Meets (N.rounds k s).A) ∨ ∃ st', LInv N (r + k - 1) N.as.length (N.rounds k s) st' ∧ ∃ v, v < N.n ∧ (N.rounds k s).node = (v : Int) ∧ st' v = r + k - 1)
  | 0, r, s, st, hr, hk, I => by omega
  | k + 1, r, s, st, hr, hk, I => by
    obtain ⟨st', I'⟩ := linv_passTo h hr I N.as.length (Nat.le_refl _)
    have I' : LInv N r N.as.length (N.pass s) st' := I'
    have e : N.rounds (k + 1) s = if (N.pass s).node < 0 then N.pass s else N.rounds k (N.pass s) := rfl
    rw [e]
    rcases I'.last with ⟨hl, hst⟩ | ⟨v, hv, hl, hst⟩
    · rw [if_pos (by omega)]
      refine .inl ⟨hl, fun e he => ?_⟩
      obtain ⟨j, hj, rfl⟩ := List.mem_iff_getElem.1 he
      have := (I'.rel j hj).1 hj
      rw [getD_lt _ _ hj] at this
      rcases this with h1 | h1
      · exact h1
      · have := hst (N.as[j]).f.toNat; omega
    · rw [if_neg (by omega)]
      by_cases hk0 : k = 0
      · subst hk0
        exact .inr ⟨st', I', v, hv, hl, hst⟩
      · have := lrounds_end h k (r + 1) (N.pass s) st' (by omega) (by omega) (linv_next hr I')
        have e2 : r + 1 + k - 1 = r + (k + 1) - 1 := by omega
        rw [e2] at this
        exact this
theorem lrun_end {N : Net} (h : N.OK) : (N.run.node = -1 ∧ N.Meets N.run.A) ∨ ∃ st, LInv N (N.n + 1) N.as.length N.run st ∧ ∃ v, v < N.n ∧ N.run.node = (v : Int) ∧ st v = N.n + 1 := by
  have := lrounds_end h (N.n + 1) 1 N.start (fun _ => 0) (by omega) (by omega) linv_start
  have e : 1 + (N.n + 1) - 1 = N.n + 1 := by omega
  rw [e] at this
  exact this

/-! The positions are below all that meet the arcs. -/
theorem lrelax_below {p : Nat → Int} {s : LP} {a : Arc} (ha : p a.f.toNat + a.by_ ≤ p a.t.toNat) (hs : ∀ v, v < s.at_.length → s.A v ≤ p v) (hf : a.f.toNat < s.at_.length) (ht : a.t.toNat < s.at_.length) : ∀ v, v < (lrelax s a).at_.length → (lrelax s a).A v ≤ p v := by
  unfold lrelax
  split
  · intro v hv
    simp only [List.length_set] at hv
    show (s.at_.set a.t.toNat (s.A a.f.toNat + a.by_)).getD v 0 ≤ p v
    rw [getD_set ht]
    split
    · rename_i e; subst e
      have := hs _ hf
      omega
    · exact hs v hv
  · exact hs
theorem lrelax_len (s : LP) (a : Arc) : (lrelax s a).at_.length = s.at_.length := by unfold lrelax; split <;> simp
theorem lpass_below {N : Net} (h : N.OK) {p : Nat → Int} (hp : N.Meets p) : ∀ (l : List Arc) (s : LP), (∀ a ∈ l, a ∈ N.as) → s.at_.length = N.n → (∀ v, v < N.n → s.A v ≤ p v) → (l.foldl lrelax s).at_.length = N.n ∧ ∀ v, v < N.n → (l.foldl lrelax s).A v ≤ p v
  | [], s, _, hn, hs => ⟨hn, hs⟩
  | a :: l, s, hl, hn, hs => by
    have ha := h.as a (hl a (by simp))
    have hb := lrelax_below (s := s) (hp a (hl a (by simp))) (by rw [hn]; exact hs) (by rw [hn]; omega) (by rw [hn]; omega)
    rw [lrelax_len, hn] at hb
    exact lpass_below h hp l (lrelax s a) (fun x hx => hl x (by simp [hx])) (by rw [lrelax_len]; exact hn) hb
theorem lrounds_below {N : Net} (h : N.OK) {p : Nat → Int} (hp : N.Meets p) : ∀ (k : Nat) (s : LP), s.at_.length = N.n → (∀ v, v < N.n → s.A v ≤ p v) → (N.rounds k s).at_.length = N.n ∧ ∀ v, v < N.n → (N.rounds k s).A v ≤ p v
  | 0, s, hn, hs => ⟨hn, hs⟩
  | k + 1, s, hn, hs => by
    have e : N.rounds (k + 1) s = if (N.pass s).node < 0 then N.pass s else N.rounds k (N.pass s) := rfl
    have hq : (N.pass s).at_.length = N.n ∧ ∀ v, v < N.n → (N.pass s).A v ≤ p v := by
      unfold Net.pass Net.passTo
      rw [List.take_length]
      exact lpass_below h hp N.as _ (fun a ha => ha) hn hs
    rw [e]
    split
    · exact hq
    · exact lrounds_below h hp k _ hq.1 hq.2
theorem lrun_below {N : Net} (h : N.OK) {p : Nat → Int} (hp : N.Meets p) (h0 : ∀ v, v < N.n → 0 ≤ p v) : N.run.at_.length = N.n ∧ ∀ v, v < N.n → N.run.A v ≤ p v :=
  lrounds_below h hp _ _ (by simp [Net.start]) fun v hv => by
    have : N.start.A v = 0 := by simp [Net.start, LP.A, List.getD_eq_getElem?_getD, List.getElem?_replicate]; split <;> rfl
    rw [this]; exact h0 v hv

/-! The way back. -/
def LP.pr (s : LP) (v : Nat) : Nat := (s.L v).f.toNat
def LP.back (s : LP) : Nat → Nat → Nat
  | 0, v => v
  | k + 1, v => s.pr (s.back k v)
theorem lback_add (s : LP) (a b v : Nat) : s.back (a + b) v = s.back b (s.back a v) := by
  induction b with
  | zero => rfl
  | succ b ih => show s.pr (s.back (a + b) v) = _; rw [ih]; rfl
structure LOn (N : Net) (s : LP) (v : Nat) : Prop where
  lt : v < N.n
  mem : s.L v ∈ N.as
  to_ : (s.L v).t.toNat = v
  le : s.A v ≤ s.A (s.L v).f.toNat + (s.L v).by_
theorem LOn.pr_lt {N : Net} (h : N.OK) {s : LP} {v : Nat} (o : LOn N s v) : s.pr v < N.n := by
  have := h.as _ o.mem
  unfold LP.pr
  omega
structure LCyc (N : Net) (s : LP) (x : Nat) : Prop where
  way : ∀ k, LOn N s (s.back k x)
  per : ∃ k, 0 < k ∧ k ≤ N.n ∧ s.back k x = x
  tau : ∃ τ : Nat → Nat, ∀ k, τ (s.back k x) ≤ τ (s.back (k + 1) x) → s.A (s.back k x) + 1 ≤ s.A (s.back (k + 1) x) + (s.L (s.back k x)).by_
theorem lcycle_of {N : Net} (h : N.OK) {s : LP} {st : Nat → Nat} {v : Nat} (I : LInv N (N.n + 1) N.as.length s st) (hv : v < N.n) (hst : st v = N.n + 1) :
    (∀ k, LOn N s (s.back k v)) ∧ LCyc N s (s.back N.n v) := by
  have hset : ∀ v, v < N.n → 0 < st v → LOn N s v ∧ st v ≤ st (s.pr v) + 1 := fun v h1 h2 => let ⟨a, b, c, d⟩ := I.set v h1 h2; ⟨⟨h1, a, b, c⟩, d⟩
  have hway : ∀ k, k ≤ N.n → s.back k v < N.n ∧ N.n + 1 ≤ st (s.back k v) + k := by
    intro k
    induction k with
    | zero => intro _; exact ⟨hv, by show _ ≤ st v + 0; omega⟩
    | succ k ih =>
      intro hk
      obtain ⟨h1, h2⟩ := ih (by omega)
      obtain ⟨o, h3⟩ := hset _ h1 (by omega)
      exact ⟨o.pr_lt h, by show _ ≤ st (s.pr (s.back k v)) + (k + 1); omega⟩
  have hon : ∀ k, k ≤ N.n → LOn N s (s.back k v) := fun k hk => (hset _ (hway k hk).1 (by have := (hway k hk).2; omega)).1
  obtain ⟨a, b, hab, hb, he⟩ := repeats (n := N.n) (x := fun k => s.back k v) (fun i hi => (hway i hi).1)
  have hper : ∀ k, a ≤ k → s.back (k + (b - a)) v = s.back k v := by
    intro k hk
    obtain ⟨c, rfl⟩ : ∃ c, k = a + c := ⟨k - a, by omega⟩
    have e : a + c + (b - a) = b + c := by omega
    rw [e, lback_add, lback_add, show s.back b v = s.back a v from he.symm]
  have hall : ∀ k, ∃ k', k' ≤ N.n ∧ s.back k v = s.back k' v := by
    intro k
    induction k using Nat.strongRecOn with
    | ind k ih =>
      by_cases hk : k ≤ N.n
      · exact ⟨k, hk, rfl⟩
      · obtain ⟨k', h1, h2⟩ := ih (k - (b - a)) (by omega)
        refine ⟨k', h1, ?_⟩
        rw [← h2]
        have := hper (k - (b - a)) (by omega)
        rw [← this]
        congr 1
        omega
  have hw : ∀ k, LOn N s (s.back k v) := fun k => by
    obtain ⟨k', h1, h2⟩ := hall k
    rw [h2]; exact hon k' h1
  have hst : ∀ k, 0 < st (s.back k v) := fun k => by
    obtain ⟨k', h1, h2⟩ := hall k
    rw [h2]
    have := (hway k' h1).2
    omega
  refine ⟨hw, fun k => by rw [← lback_add]; exact hw _, ⟨b - a, by omega, by omega, ?_⟩, ?_⟩
  · rw [← lback_add]
    exact hper _ (by omega)
  · obtain ⟨τ, c, _, h2⟩ := I.tau
    refine ⟨τ, fun k hk => ?_⟩
    rw [← lback_add] at hk ⊢
    rw [← lback_add] at hk ⊢
    exact h2 _ (hw _).lt (hst _) hk
def LP.per (s : LP) (n x : Nat) : Nat := (((List.range n).find? fun k => Nat.beq (s.back (k + 1) x) x).getD 0) + 1
theorem find_least {n : Nat} {q : Nat → Bool} (h : ∃ k, k < n ∧ q k = true) : ((List.range n).find? q).getD 0 < n ∧ q (((List.range n).find? q).getD 0) = true ∧ ∀ k, k < ((List.range n).find? q).getD 0 → q k = false := by
  obtain ⟨k0, hk0, hq0⟩ := h
  cases hf : (List.range n).find? q with
  | none =>
    rw [List.find?_eq_none] at hf
    exact absurd hq0 (hf k0 (by simpa using hk0))
  | some p =>
    have h1 := List.find?_some hf
    have h2 := List.mem_of_find?_eq_some hf
    refine ⟨by simpa using h2, h1, fun k hk => ?_⟩
    simp only [Option.getD_some] at hk
    rw [List.find?_range_eq_some] at hf
    have := hf.2.2 k hk
    simpa using this
theorem lper_spec {N : Net} {s : LP} {x : Nat} (c : LCyc N s x) : 0 < s.per N.n x ∧ s.per N.n x ≤ N.n ∧ s.back (s.per N.n x) x = x ∧ ∀ k, 0 < k → k < s.per N.n x → s.back k x ≠ x := by
  obtain ⟨p, hp0, hpn, hp⟩ := c.per
  obtain ⟨h1, h2, h3⟩ := find_least (n := N.n) (q := fun k => Nat.beq (s.back (k + 1) x) x) ⟨p - 1, by omega, by rw [show p - 1 + 1 = p by omega, hp]; simp⟩
  unfold LP.per
  refine ⟨by omega, by omega, Nat.eq_of_beq_eq_true h2, fun k hk0 hk he => ?_⟩
  have := h3 (k - 1) (by omega)
  rw [show k - 1 + 1 = k by omega, he] at this
  simp at this
/-- The arcs of the cycle, in the order in which they are gone back. -/
abbrev LP.gone (s : LP) (x k : Nat) : List Arc := (List.range k).map fun i => s.L (s.back i x)
def Net.knot (N : Net) : Nat := N.run.back N.n N.run.node.toNat
def Net.cyc (N : Net) : List Arc := N.run.gone N.knot (N.run.per N.n N.knot)

/-- Sums over the first numbers. -/
def sm : Nat → (Nat → Int) → Int
  | 0, _ => 0
  | k + 1, f => sm k f + f k
theorem sm_le {m : Nat} {f g : Nat → Int} (h : ∀ i, i < m → f i ≤ g i) : sm m f ≤ sm m g := by
  induction m with
  | zero => exact Int.le_refl _
  | succ m ih => have a := ih fun i hi => h i (by omega); have b := h m (by omega); show sm m f + f m ≤ sm m g + g m; omega
theorem sm_eq {m : Nat} {f g : Nat → Int} (h : ∀ i, i < m → f i = g i) : sm m f = sm m g := by
  induction m with
  | zero => rfl
  | succ m ih => have a := ih fun i hi => h i (by omega); have b := h m (by omega); show sm m f + f m = sm m g + g m; omega
theorem sm_add {m : Nat} (f g : Nat → Int) : sm m (fun i => f i + g i) = sm m f + sm m g := by
  induction m with
  | zero => rfl
  | succ m ih => show sm m (fun i => f i + g i) + (f m + g m) = (sm m f + f m) + (sm m g + g m); rw [ih]; omega
theorem sm_mul {m : Nat} (c : Int) (f : Nat → Int) : sm m (fun i => c * f i) = c * sm m f := by
  induction m with
  | zero => show 0 = c * 0; omega
  | succ m ih => show sm m _ + _ = c * (sm m f + f m); rw [ih, Int.mul_add]
theorem sm_const {m : Nat} (c : Int) : sm m (fun _ => c) = m * c := by
  induction m with
  | zero => show 0 = ((0 : Nat) : Int) * c; simp
  | succ m ih => show sm m _ + c = ((m + 1 : Nat) : Int) * c; rw [ih]; push_cast; rw [Int.add_mul]; omega
theorem sm_zero {m : Nat} : sm m (fun _ => 0) = 0 := by rw [sm_const]; simp
theorem sm_nonneg {m : Nat} {f : Nat → Int} (h : ∀ i, i < m → 0 ≤ f i) : 0 ≤ sm m f := by
  have := sm_le (m := m) (f := fun _ => 0) (g := f) h
  rwa [sm_zero] at this
theorem sm_tele {m : Nat} (f : Nat → Int) : sm m (fun i => f i - f (i + 1)) = f 0 - f m := by
  induction m with
  | zero => show 0 = _; omega
  | succ m ih => show sm m (fun i => f i - f (i + 1)) + (f m - f (m + 1)) = _; rw [ih]; omega
theorem sm_one {m : Nat} {f : Nat → Int} (h : ∀ i, i < m → 0 ≤ f i) {j : Nat} (hj : j < m) : f j ≤ sm m f := by
  induction m with
  | zero => omega
  | succ m ih =>
    show f j ≤ sm m f + f m
    have h0 := sm_nonneg (m := m) (f := f) fun i hi => h i (by omega)
    by_cases e : j = m
    · subst e; omega
    · have a := ih (fun i hi => h i (by omega)) (by omega)
      have b := h m (by omega)
      omega
theorem sm_one_neg {m : Nat} {f : Nat → Int} (h : ∀ i, i < m → 0 ≤ f i) (h0 : sm m f ≤ 0) {j : Nat} (hj : j < m) : f j = 0 := by
  have := sm_one h hj
  have := h j hj
  omega

/-- Along the cycle the positions grow. -/
theorem lcyc_sum {N : Net} {s : LP} {x : Nat} (c : LCyc N s x) : 0 < sm (s.per N.n x) (fun i => (s.L (s.back i x)).by_) := by
  obtain ⟨hp0, hpn, hpx, _⟩ := lper_spec c
  obtain ⟨τ, hτ⟩ := c.tau
  obtain ⟨p, hp⟩ : ∃ p, s.per N.n x = p := ⟨_, rfl⟩
  rw [hp] at hp0 hpx ⊢
  have hle : ∀ i, s.A (s.back i x) - s.A (s.back (i + 1) x) ≤ (s.L (s.back i x)).by_ := fun i => by
    have := (c.way i).le
    show s.A (s.back i x) - s.A (s.pr (s.back i x)) ≤ _
    unfold LP.pr
    omega
  have htel := sm_tele (m := p) fun i => s.A (s.back i x)
  have h0 : s.A (s.back 0 x) - s.A (s.back p x) = 0 := by rw [hpx]; show s.A x - s.A x = 0; omega
  rw [h0] at htel
  obtain ⟨i, hi, hst⟩ : ∃ i, i < p ∧ τ (s.back i x) ≤ τ (s.back (i + 1) x) := by
    refine Classical.byContradiction fun hno => ?_
    have hdec : ∀ i, i ≤ p → τ (s.back i x) + i ≤ τ x := by
      intro i
      induction i with
      | zero => intro _; exact Nat.le_refl _
      | succ i ih =>
        intro hi
        have a := ih (by omega)
        have b : ¬ τ (s.back i x) ≤ τ (s.back (i + 1) x) := fun h => hno ⟨i, by omega, h⟩
        omega
    have := hdec p (Nat.le_refl _)
    rw [hpx] at this
    omega
  have hs := hτ i hst
  have := sm_one (m := p) (f := fun i => (s.L (s.back i x)).by_ - (s.A (s.back i x) - s.A (s.back (i + 1) x))) (fun i _ => by have := hle i; omega) hi
  have e : sm p (fun i => (s.L (s.back i x)).by_) = sm p (fun i => (s.L (s.back i x)).by_ - (s.A (s.back i x) - s.A (s.back (i + 1) x))) + sm p (fun i => s.A (s.back i x) - s.A (s.back (i + 1) x)) := by
    rw [← sm_add]
    exact sm_eq fun i _ => by omega
  rw [htel] at e
  have hs' : 1 ≤ (s.L (s.back i x)).by_ - (s.A (s.back i x) - s.A (s.back (i + 1) x)) := by omega
  omega

/-! The rounds, one after the other. -/
def Net.stt (N : Net) : Nat → LP
  | 0 => N.start
  | k + 1 => N.pass (N.stt k)
def Net.loud (N : Net) (k : Nat) : Prop := ∀ j, 0 < j → j ≤ k → 0 ≤ (N.stt j).node
theorem lrun_stt {N : Net} : ∀ (k : Nat), k ≤ N.n + 1 → N.loud k → N.run = N.rounds (N.n + 1 - k) (N.stt k)
  | 0, _, _ => rfl
  | k + 1, hk, hl => by
    rw [lrun_stt k (by omega) fun j h1 h2 => hl j h1 (by omega)]
    obtain ⟨d, hd⟩ : ∃ d, N.n + 1 - k = d + 1 := ⟨N.n - k, by omega⟩
    rw [hd, show N.n + 1 - (k + 1) = d by omega]
    show (if (N.pass (N.stt k)).node < 0 then N.pass (N.stt k) else N.rounds d (N.pass (N.stt k))) = _
    have := hl (k + 1) (by omega) (Nat.le_refl _)
    have e : N.stt (k + 1) = N.pass (N.stt k) := rfl
    rw [e] at this ⊢
    rw [if_neg (by omega)]
theorem lrun_full {N : Net} (hl : N.loud (N.n + 1)) : N.run = N.stt (N.n + 1) := by
  rw [lrun_stt _ (Nat.le_refl _) hl]
  simp [Net.rounds]
theorem lrun_quiet {N : Net} {k : Nat} (hk : k ≤ N.n) (hl : N.loud k) (hq : (N.stt (k + 1)).node < 0) : N.run = N.stt (k + 1) := by
  rw [lrun_stt k (by omega) hl]
  obtain ⟨d, hd⟩ : ∃ d, N.n + 1 - k = d + 1 := ⟨N.n - k, by omega⟩
  rw [hd]
  show (if (N.pass (N.stt k)).node < 0 then N.pass (N.stt k) else N.rounds d (N.pass (N.stt k))) = _
  exact if_pos hq
theorem linv_stt {N : Net} (h : N.OK) : ∀ k, ∃ st, LInv N (k + 1) 0 { N.stt k with node := -1 } st
  | 0 => ⟨_, linv_start⟩
  | k + 1 => by
    obtain ⟨st, I⟩ := linv_stt h k
    obtain ⟨st', I'⟩ := linv_passTo h (by omega) I N.as.length (Nat.le_refl _)
    exact ⟨st', linv_next (by omega) I'⟩
structure LGood (N : Net) (s : LP) : Prop where
  la : s.at_.length = N.n
  ll : s.lst.length = N.n
  bd : ∀ v, 0 ≤ s.at_.getD v 0 ∧ s.at_.getD v 0 ≤ 1152921504606846976
  nd : -1 ≤ s.node ∧ s.node < N.n
  ks : ∀ v, v < N.n → s.lst.getD v default ∈ N.as ∨ s.lst.getD v default = default
theorem lpassTo_good {N : Net} (h : N.OK) (hn : N.n ≤ 4096) (hm : N.as.length ≤ 32768) {k i : Nat} (hk : k ≤ N.n) (hi : i ≤ N.as.length) : LGood N (N.passTo (N.stt k) i) := by
  obtain ⟨st, I⟩ := linv_stt h k
  obtain ⟨st', I'⟩ := linv_passTo h (by omega) I i hi
  refine ⟨I'.lenf, I'.lenb, fun v => ⟨I'.low v, ?_⟩, ?_, I'.kind⟩
  · have h1 := I'.top v
    have h2 : (k + 1 - 1) * N.as.length + i ≤ 4097 * 32768 := by
      have a : (k + 1 - 1) * N.as.length ≤ 4096 * 32768 := Nat.mul_le_mul (by omega) hm
      omega
    have h3 : LP.A (N.passTo (N.stt k) i) v = (N.passTo (N.stt k) i).at_.getD v 0 := rfl
    omega
  · rcases I'.last with ⟨h1, _⟩ | ⟨v, _, h1, _⟩ <;> omega
theorem lstt_good {N : Net} (h : N.OK) (hn : N.n ≤ 4096) (hm : N.as.length ≤ 32768) {k : Nat} (hk : k ≤ N.n + 1) : LGood N (N.stt k) := by
  cases k with
  | zero =>
    have hF : ∀ v, N.start.at_.getD v 0 = 0 := fun v => by simp [Net.start, List.getD_eq_getElem?_getD, List.getElem?_replicate]; split <;> rfl
    have hL : ∀ v, N.start.lst.getD v default = default := fun v => by simp [Net.start, List.getD_eq_getElem?_getD, List.getElem?_replicate]; split <;> rfl
    exact ⟨by simp [Net.stt, Net.start], by simp [Net.stt, Net.start], fun v => by show _ ∧ N.start.at_.getD v 0 ≤ _; rw [show (N.stt 0).at_.getD v 0 = 0 from hF v, hF]; omega, by show -1 ≤ (-1 : Int) ∧ (-1 : Int) < _; omega, fun v _ => .inr (hL v)⟩
  | succ k => exact lpassTo_good h hn hm (by omega) (Nat.le_refl _)

/-- All of it: positions that meet the arcs and are the least; or a cycle. -/
theorem lrun_cases {N : Net} (h : N.OK) : (N.run.node = -1 ∧ N.Meets N.run.A) ∨ (∃ v : Nat, v < N.n ∧ N.run.node = (v : Int)) ∧ (∀ k, LOn N N.run (N.run.back k N.run.node.toNat)) ∧ LCyc N N.run N.knot := by
  rcases lrun_end h with h1 | ⟨st, I, v, hv, hn, hst⟩
  · exact .inl h1
  · obtain ⟨a, b⟩ := lcycle_of h I hv hst
    refine .inr ⟨⟨v, hv, hn⟩, ?_, ?_⟩
    · rw [hn]; exact a
    · unfold Net.knot; rw [hn]; exact b

end Go.Proofs.Ytkieenlidehdgaa
