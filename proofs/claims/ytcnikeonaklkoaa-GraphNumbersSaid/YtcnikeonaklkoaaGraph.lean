/- Graphs with delays, in plain Lean: the shortest ways by rounds over the edges; the cycle that is found. No program in sight. -/
namespace Go.Proofs.Ytcnikeonaklkoaa
set_option linter.unusedVariables false
set_option linter.unusedSimpArgs false

structure Edg where
  f : Int
  t : Int
  w : Int
  d : Int
deriving Inhabited
structure Gr where
  lat : List Int
  es : List Edg

def Edg.ok (n : Nat) (e : Edg) : Bool := decide (0 ≤ e.f ∧ e.f ≤ (n : Int) - 1) && decide (0 ≤ e.t ∧ e.t ≤ (n : Int) - 1) && decide (0 ≤ e.w ∧ e.w ≤ 64) && decide (0 ≤ e.d ∧ e.d ≤ 1048576)
def latOk (x : Int) : Bool := decide (0 ≤ x ∧ x ≤ 4096)
def Gr.formed (g : Gr) : Int := if g.lat.length > 4096 ∨ g.es.length > 16384 then 2 else if g.lat.all latOk && g.es.all (Edg.ok g.lat.length) then 0 else 210
structure Gr.OK (g : Gr) : Prop where
  n : g.lat.length ≤ 4096
  m : g.es.length ≤ 16384
  lat : ∀ x ∈ g.lat, 0 ≤ x ∧ x ≤ 4096
  es : ∀ e ∈ g.es, (0 ≤ e.f ∧ e.f < g.lat.length) ∧ (0 ≤ e.t ∧ e.t < g.lat.length) ∧ (0 ≤ e.w ∧ e.w ≤ 64) ∧ 0 ≤ e.d ∧ e.d ≤ 1048576
theorem Gr.ok_of {g : Gr} (h : g.formed = 0) : g.OK := by
  unfold Gr.formed at h
  split at h
  · omega
  · rename_i h1
    split at h
    · rename_i h2
      simp only [Bool.and_eq_true, List.all_eq_true] at h2
      refine ⟨by omega, by omega, fun x hx => by simpa [latOk] using h2.1 x hx, fun e he => ?_⟩
      have := h2.2 e he
      simp only [Edg.ok, Bool.and_eq_true, decide_eq_true_eq] at this
      omega
    · omega
theorem Gr.formed_of {g : Gr} (h : g.OK) : g.formed = 0 := by
  unfold Gr.formed
  rw [if_neg (by have := h.n; have := h.m; omega), if_pos]
  simp only [Bool.and_eq_true, List.all_eq_true]
  refine ⟨fun x hx => by simpa [latOk] using h.lat x hx, fun e he => ?_⟩
  have := h.es e he
  simp only [Edg.ok, Bool.and_eq_true, decide_eq_true_eq]
  omega

abbrev Gr.nn (g : Gr) : Int := (g.lat.length : Int)
/-- What an edge is long: its delay without the latency of the node that it leaves. -/
def Gr.wt (g : Gr) (e : Edg) : Int := e.d - g.lat.getD e.f.toNat 0
def Gr.W (g : Gr) (e : Edg) : Int := (g.nn + 1) * g.wt e - 1
theorem getD_lt {α : Type} (l : List α) (d : α) {i : Nat} (h : i < l.length) : l.getD i d = l[i] := by simp [List.getD_eq_getElem?_getD, h]
theorem getD_ge {α : Type} (l : List α) (d : α) {i : Nat} (h : l.length ≤ i) : l.getD i d = d := by simp [List.getD_eq_getElem?_getD, h]
theorem getD_mem_or {l : List Int} {i : Nat} : l.getD i 0 ∈ l ∨ l.getD i 0 = 0 := by
  by_cases h : i < l.length
  · left; rw [getD_lt _ _ h]; exact List.getElem_mem h
  · right; rw [getD_ge _ _ (by omega)]
theorem Gr.lat_at {g : Gr} (h : g.OK) (i : Nat) : 0 ≤ g.lat.getD i 0 ∧ g.lat.getD i 0 ≤ 4096 := by
  rcases getD_mem_or (l := g.lat) (i := i) with h1 | h1
  · exact h.lat _ h1
  · omega
theorem Gr.wt_bd {g : Gr} (h : g.OK) {e : Edg} (he : e ∈ g.es) : -4096 ≤ g.wt e ∧ g.wt e ≤ 1048576 := by
  have h1 := g.lat_at h e.f.toNat
  have h2 := h.es e he
  unfold Gr.wt; omega

structure BF where
  far : List Int
  by_ : List Int
  last : Int
abbrev BF.F (s : BF) (v : Nat) : Int := s.far.getD v 0
abbrev BF.B (s : BF) (v : Nat) : Int := s.by_.getD v 0
def relax (g : Gr) (s : BF) (i : Nat) : BF :=
  let e := g.es.getD i default
  if s.F e.f.toNat + g.W e < s.F e.t.toNat then ⟨s.far.set e.t.toNat (s.F e.f.toNat + g.W e), s.by_.set e.t.toNat i, e.t⟩ else s
def passTo (g : Gr) (s : BF) (i : Nat) : BF := (List.range i).foldl (relax g) { s with last := -1 }
def pass (g : Gr) (s : BF) : BF := passTo g s g.es.length
theorem passTo_succ (g : Gr) (s : BF) (i : Nat) : passTo g s (i + 1) = relax g (passTo g s i) i := by
  simp [passTo, List.range_succ]
def rounds (g : Gr) : Nat → BF → BF
  | 0, s => s
  | k + 1, s => if (pass g s).last < 0 then pass g s else rounds g k (pass g s)
def Gr.start (g : Gr) : BF := ⟨List.replicate g.lat.length 0, List.replicate g.lat.length 0, -1⟩
def Gr.run (g : Gr) : BF := rounds g (g.lat.length + 1) g.start

theorem getD_set {l : List Int} {i j : Nat} {x : Int} (h : i < l.length) : (l.set i x).getD j 0 = if i = j then x else l.getD j 0 := by
  simp only [List.getD_eq_getElem?_getD, List.getElem?_set]
  by_cases hij : i = j
  · subst hij; simp [h]
  · simp [hij]

/-- Round r, the edges below i having been looked at; 'st': the round in which a node was reached last. -/
structure Inv (g : Gr) (r i : Nat) (s : BF) (st : Nat → Nat) : Prop where
  lenf : s.far.length = g.lat.length
  lenb : s.by_.length = g.lat.length
  le : ∀ v, st v ≤ r
  set : ∀ v, v < g.lat.length → 0 < st v → ∃ j, j < g.es.length ∧ s.B v = (j : Int) ∧ (g.es.getD j default).t.toNat = v ∧ s.F (g.es.getD j default).f.toNat + g.W (g.es.getD j default) ≤ s.F v ∧ st v ≤ st (g.es.getD j default).f.toNat + 1
  bys : ∀ v, v < g.lat.length → 0 ≤ s.B v
  rel : ∀ j, j < g.es.length → (j < i → s.F (g.es.getD j default).t.toNat ≤ s.F (g.es.getD j default).f.toNat + g.W (g.es.getD j default) ∨ r ≤ st (g.es.getD j default).f.toNat) ∧
    (i ≤ j → r ≤ 1 ∨ s.F (g.es.getD j default).t.toNat ≤ s.F (g.es.getD j default).f.toNat + g.W (g.es.getD j default) ∨ r ≤ st (g.es.getD j default).f.toNat + 1)
  last : (s.last = -1 ∧ ∀ v, st v < r) ∨ ∃ v, v < g.lat.length ∧ s.last = (v : Int) ∧ st v = r
  top : ∀ v, s.F v ≤ 0
  low : ∀ v, -((((r - 1) * g.es.length + i : Nat) : Int) * 16785408) ≤ s.F v

theorem Gr.edge {g : Gr} (h : g.OK) {j : Nat} (hj : j < g.es.length) : g.es.getD j default ∈ g.es ∧ (g.es.getD j default).f.toNat < g.lat.length ∧ (g.es.getD j default).t.toNat < g.lat.length ∧ 0 ≤ (g.es.getD j default).f ∧ 0 ≤ (g.es.getD j default).t := by
  have hm : g.es.getD j default ∈ g.es := by rw [getD_lt _ _ hj]; exact List.getElem_mem hj
  have := h.es _ hm
  exact ⟨hm, by omega, by omega, by omega, by omega⟩
theorem Gr.W_low {g : Gr} (h : g.OK) {e : Edg} (he : e ∈ g.es) : -16785408 ≤ g.W e ∧ g.W e ≤ 4296015872 := by
  have h1 := g.wt_bd h he
  have h2 := h.n
  unfold Gr.W Gr.nn
  have a : ((g.lat.length : Int) + 1) * g.wt e ≤ ((g.lat.length : Int) + 1) * 1048576 := Int.mul_le_mul_of_nonneg_left h1.2 (by omega)
  have b : ((g.lat.length : Int) + 1) * (-4096) ≤ ((g.lat.length : Int) + 1) * g.wt e := Int.mul_le_mul_of_nonneg_left h1.1 (by omega)
  omega

theorem inv_step {g : Gr} (h : g.OK) {r i : Nat} {s : BF} {st : Nat → Nat} (hr : 1 ≤ r) (hi : i < g.es.length) (I : Inv g r i s st) : ∃ st', Inv g r (i + 1) (relax g s i) st' := by
  obtain ⟨e, he⟩ : ∃ e, g.es.getD i default = e := ⟨_, rfl⟩
  obtain ⟨hm, hf, ht, hf0, ht0⟩ := he ▸ Gr.edge h hi
  have hW := Gr.W_low h hm
  have hrel : relax g s i = if s.F e.f.toNat + g.W e < s.F e.t.toNat then ⟨s.far.set e.t.toNat (s.F e.f.toNat + g.W e), s.by_.set e.t.toNat i, e.t⟩ else s := by
    unfold relax; simp only [he]
  rw [hrel]
  have hlow : ∀ v, -((((r - 1) * g.es.length + (i + 1) : Nat) : Int) * 16785408) ≤ s.F v := fun v => by have := I.low v; omega
  by_cases hd : s.F e.f.toNat + g.W e < s.F e.t.toNat
  · rw [if_pos hd]
    obtain ⟨d, hde⟩ : ∃ d, s.F e.f.toNat + g.W e = d := ⟨_, rfl⟩
    rw [hde] at hd ⊢
    have hF : ∀ v, BF.F ⟨s.far.set e.t.toNat d, s.by_.set e.t.toNat i, e.t⟩ v = if e.t.toNat = v then d else s.F v := fun v => getD_set (by rw [I.lenf]; exact ht)
    have hB : ∀ v, BF.B ⟨s.far.set e.t.toNat d, s.by_.set e.t.toNat i, e.t⟩ v = if e.t.toNat = v then (i : Int) else s.B v := fun v => getD_set (by rw [I.lenb]; exact ht)
    have hle : ∀ v, BF.F ⟨s.far.set e.t.toNat d, s.by_.set e.t.toNat i, e.t⟩ v ≤ s.F v := fun v => by
      rw [hF]; split
      · rename_i hv; rw [← hv]; omega
      · exact Int.le_refl _
    refine ⟨fun v => if e.t.toNat = v then r else st v, ?_⟩
    refine { lenf := by simpa using I.lenf, lenb := by simpa using I.lenb, le := fun v => by split; exact Nat.le_refl _; exact I.le v, set := fun v hv hs => ?_, bys := fun v hv => by rw [hB]; split; omega; exact I.bys v hv, rel := fun j hj => ?_, last := .inr ⟨e.t.toNat, ht, by show e.t = _; omega, by simp⟩, top := fun v => Int.le_trans (hle v) (I.top v), low := fun v => ?_ }
    · by_cases hv' : e.t.toNat = v
      · refine ⟨i, hi, by rw [hB, if_pos hv'], by rw [he]; exact hv', ?_, ?_⟩
        · rw [he, hF v, if_pos hv']
          have := hle e.f.toNat
          omega
        · rw [if_pos hv', he]
          by_cases h2 : e.t.toNat = e.f.toNat
          · rw [if_pos h2]; omega
          · rw [if_neg h2]
            have h3 := (I.rel i hi).2 (Nat.le_refl _)
            rw [he] at h3
            rcases h3 with h3 | h3 | h3
            · omega
            · omega
            · omega
      · rw [if_neg hv'] at hs
        obtain ⟨j, hj, h1, h2, h3, h4⟩ := I.set v hv hs
        refine ⟨j, hj, by rw [hB, if_neg hv']; exact h1, h2, ?_, ?_⟩
        · rw [hF v, if_neg hv']
          have := hle (g.es.getD j default).f.toNat
          omega
        · rw [if_neg hv']
          split
          · have := I.le v; omega
          · exact h4
    · have hstf : ∀ {k : Nat}, k ≤ st (g.es.getD j default).f.toNat → k ≤ r → k ≤ (if e.t.toNat = (g.es.getD j default).f.toNat then r else st (g.es.getD j default).f.toNat) := fun {k} h1 h2 => by split <;> assumption
      have hFj : (¬ e.t.toNat = (g.es.getD j default).f.toNat) → s.F (g.es.getD j default).t.toNat ≤ s.F (g.es.getD j default).f.toNat + g.W (g.es.getD j default) →
          BF.F ⟨s.far.set e.t.toNat d, s.by_.set e.t.toNat i, e.t⟩ (g.es.getD j default).t.toNat ≤ BF.F ⟨s.far.set e.t.toNat d, s.by_.set e.t.toNat i, e.t⟩ (g.es.getD j default).f.toNat + g.W (g.es.getD j default) := fun hne h1 => by
        rw [hF (g.es.getD j default).f.toNat, if_neg hne]
        have := hle (g.es.getD j default).t.toNat
        omega
      by_cases hne : e.t.toNat = (g.es.getD j default).f.toNat
      · refine ⟨fun _ => .inr (by rw [if_pos hne]; exact Nat.le_refl _), fun _ => .inr (.inr (by rw [if_pos hne]; omega))⟩
      · simp only [if_neg hne]
        refine ⟨fun hji => ?_, fun hji => ?_⟩
        · by_cases hji' : j = i
          · subst hji'
            rw [he] at hne ⊢
            left
            rw [hF e.t.toNat, if_pos rfl, hF e.f.toNat, if_neg hne]
            omega
          · rcases (I.rel j hj).1 (by omega) with h1 | h1
            · exact .inl (hFj hne h1)
            · exact .inr h1
        · rcases (I.rel j hj).2 (by omega) with h1 | h1 | h1
          · exact .inl h1
          · exact .inr (.inl (hFj hne h1))
          · exact .inr (.inr h1)
    · rw [hF]
      split
      · have := I.low e.f.toNat; omega
      · exact hlow v
  · rw [if_neg hd]
    refine ⟨st, { lenf := I.lenf, lenb := I.lenb, le := I.le, set := I.set, bys := I.bys, rel := fun j hj => ⟨fun hji => ?_, fun hji => (I.rel j hj).2 (by omega)⟩, last := I.last, top := I.top, low := hlow }⟩
    by_cases hji' : j = i
    · subst hji'
      rw [he]; left; omega
    · exact (I.rel j hj).1 (by omega)

theorem inv_start {g : Gr} : Inv g 1 0 g.start fun _ => 0 := by
  have hF : ∀ v, g.start.F v = 0 := fun v => by simp [Gr.start, BF.F, List.getD_eq_getElem?_getD, List.getElem?_replicate]; split <;> rfl
  have hB : ∀ v, g.start.B v = 0 := fun v => by simp [Gr.start, BF.B, List.getD_eq_getElem?_getD, List.getElem?_replicate]; split <;> rfl
  exact { lenf := by simp [Gr.start], lenb := by simp [Gr.start], le := fun _ => by omega, set := fun v _ h => by omega, bys := fun v _ => by rw [hB]; omega, rel := fun j _ => ⟨fun h => by omega, fun _ => .inl (by omega)⟩, last := .inl ⟨rfl, fun _ => by omega⟩, top := fun v => by rw [hF]; omega, low := fun v => by rw [hF]; simp }
theorem inv_next {g : Gr} {r : Nat} {s : BF} {st : Nat → Nat} (hr : 1 ≤ r) (I : Inv g r g.es.length s st) : Inv g (r + 1) 0 { s with last := -1 } st :=
  { lenf := I.lenf, lenb := I.lenb, le := fun v => by have := I.le v; omega, set := I.set, bys := I.bys
    rel := fun j hj => ⟨fun h => by omega, fun _ => .inr (by
      rcases (I.rel j hj).1 hj with h | h
      · exact .inl h
      · exact .inr (by omega))⟩
    last := .inl ⟨rfl, fun v => by have := I.le v; omega⟩, top := I.top
    low := fun v => by
      have := I.low v
      have e : (r + 1 - 1) * g.es.length + 0 = (r - 1) * g.es.length + g.es.length := by
        obtain ⟨k, rfl⟩ : ∃ k, r = k + 1 := ⟨r - 1, by omega⟩
        simp [Nat.succ_mul]
      rw [e]; exact this }
theorem inv_passTo {g : Gr} (h : g.OK) {r : Nat} {s : BF} {st : Nat → Nat} (hr : 1 ≤ r) (I : Inv g r 0 { s with last := -1 } st) : ∀ i, i ≤ g.es.length → ∃ st', Inv g r i (passTo g s i) st'
  | 0, _ => ⟨st, I⟩
  | i + 1, hi => by
    obtain ⟨st', I'⟩ := inv_passTo h hr I i (by omega)
    rw [passTo_succ]
    exact inv_step h hr (by omega) I'

/-- At the end of the rounds. -/
def Quiet (g : Gr) (s : BF) : Prop := ∀ e ∈ g.es, s.F e.t.toNat ≤ s.F e.f.toNat + g.W e
theorem rounds_end {g : Gr} (h : g.OK) : ∀ (k r : Nat) (s : BF) (st : Nat → Nat), 1 ≤ r → 1 ≤ k → Inv g r 0 { s with last := -1 } st →
    (((rounds g k s).last = -1 ∧ Quiet g (rounds g k s)) ∨ ∃ st', Inv g (r + k - 1) g.es.length (rounds g k s) st' ∧ ∃ v, v < g.lat.length ∧ (rounds g k s).last = (v : Int) ∧ st' v = r + k - 1)
  | 0, r, s, st, hr, hk, I => by omega
  | k + 1, r, s, st, hr, hk, I => by
    obtain ⟨st', I'⟩ := inv_passTo h hr I g.es.length (Nat.le_refl _)
    show (((if (pass g s).last < 0 then pass g s else rounds g k (pass g s)).last = -1 ∧ _) ∨ _)
    have I' : Inv g r g.es.length (pass g s) st' := I'
    have e : rounds g (k + 1) s = if (pass g s).last < 0 then pass g s else rounds g k (pass g s) := rfl
    rw [e]
    rcases I'.last with ⟨hl, hst⟩ | ⟨v, hv, hl, hst⟩
    · rw [if_pos (by omega)]
      refine .inl ⟨hl, fun e he => ?_⟩
      obtain ⟨j, hj, rfl⟩ := List.mem_iff_getElem.1 he
      have := (I'.rel j hj).1 hj
      rw [getD_lt _ _ hj] at this
      rcases this with h1 | h1
      · exact h1
      · have := hst (g.es[j]).f.toNat; omega
    · rw [if_neg (by omega)]
      by_cases hk0 : k = 0
      · subst hk0
        exact .inr ⟨st', I', v, hv, hl, hst⟩
      · have := rounds_end h k (r + 1) (pass g s) st' (by omega) (by omega) (inv_next hr I')
        have e2 : r + 1 + k - 1 = r + (k + 1) - 1 := by omega
        rw [e2] at this
        exact this
theorem run_end {g : Gr} (h : g.OK) : (g.run.last = -1 ∧ Quiet g g.run) ∨ ∃ st, Inv g (g.lat.length + 1) g.es.length g.run st ∧ ∃ v, v < g.lat.length ∧ g.run.last = (v : Int) ∧ st v = g.lat.length + 1 := by
  have := rounds_end h (g.lat.length + 1) 1 g.start (fun _ => 0) (by omega) (by omega) inv_start
  have e : 1 + (g.lat.length + 1) - 1 = g.lat.length + 1 := by omega
  rw [e] at this
  exact this

/-! The way back. -/
def Gr.pr (g : Gr) (s : BF) (v : Nat) : Nat := (g.es.getD (s.B v).toNat default).f.toNat
def Gr.back (g : Gr) (s : BF) : Nat → Nat → Nat
  | 0, v => v
  | k + 1, v => g.pr s (g.back s k v)
theorem back_add (g : Gr) (s : BF) (a b v : Nat) : g.back s (a + b) v = g.back s b (g.back s a v) := by
  induction b with
  | zero => rfl
  | succ b ih => show g.pr s (g.back s (a + b) v) = _; rw [ih]; rfl

theorem pigeon : ∀ (n : Nat) (l : List Nat), l.Nodup → (∀ x ∈ l, x < n) → l.length ≤ n
  | 0, l, _, h => by
    cases l with
    | nil => simp
    | cons x r => have := h x (by simp); omega
  | n + 1, l, hd, h => by
    have h1 := pigeon n (l.erase n) (hd.erase n) (fun x hx => by
      have h2 := h x (List.mem_of_mem_erase hx)
      have h3 : x ≠ n := fun e => by subst e; exact (List.Nodup.not_mem_erase hd) hx
      omega)
    have h2 := List.length_erase_le (a := n) (l := l)
    have h3 : l.length ≤ (l.erase n).length + 1 := by
      rw [List.length_erase]; split <;> omega
    omega
theorem repeats {n : Nat} {x : Nat → Nat} (h : ∀ i, i ≤ n → x i < n) : ∃ a b, a < b ∧ b ≤ n ∧ x a = x b := by
  refine Classical.byContradiction fun hno => ?_
  have hnd : ((List.range (n + 1)).map x).Nodup := by
    rw [List.nodup_iff_pairwise_ne, List.pairwise_map]
    refine List.Pairwise.imp_of_mem ?_ (List.pairwise_lt_range (n := n + 1))
    intro a b ha hb hab e
    exact hno ⟨a, b, hab, by simp at hb; omega, e⟩
  have := pigeon n _ hnd (fun y hy => by
    obtain ⟨i, hi, rfl⟩ := List.mem_map.1 hy
    exact h i (by simp at hi; omega))
  simp at this
  omega

/-- The nodes from which one can go back for ever. -/
structure OnWay (g : Gr) (s : BF) (v : Nat) : Prop where
  lt : v < g.lat.length
  ed : ∃ j, j < g.es.length ∧ s.B v = (j : Int) ∧ (g.es.getD j default).t.toNat = v ∧ s.F (g.es.getD j default).f.toNat + g.W (g.es.getD j default) ≤ s.F v
theorem onWay_of {g : Gr} {r i : Nat} {s : BF} {st : Nat → Nat} (I : Inv g r i s st) {v : Nat} (hv : v < g.lat.length) (hs : 0 < st v) : OnWay g s v ∧ st v ≤ st (g.pr s v) + 1 := by
  obtain ⟨j, hj, h1, h2, h3, h4⟩ := I.set v hv hs
  refine ⟨⟨hv, j, hj, h1, h2, h3⟩, ?_⟩
  unfold Gr.pr
  rw [h1]; simpa using h4
theorem OnWay.pr_lt {g : Gr} (h : g.OK) {s : BF} {v : Nat} (o : OnWay g s v) : g.pr s v < g.lat.length := by
  obtain ⟨j, hj, h1, _⟩ := o.ed
  unfold Gr.pr
  rw [h1]
  exact (Gr.edge h (j := (j : Int).toNat) (by simpa using hj)).2.1

structure Cyc (g : Gr) (s : BF) (x : Nat) : Prop where
  way : ∀ k, OnWay g s (g.back s k x)
  per : ∃ k, 0 < k ∧ k ≤ g.lat.length ∧ g.back s k x = x
theorem cycle_of {g : Gr} (h : g.OK) {s : BF} {st : Nat → Nat} {v : Nat} (I : Inv g (g.lat.length + 1) g.es.length s st) (hv : v < g.lat.length) (hst : st v = g.lat.length + 1) :
    (∀ k, OnWay g s (g.back s k v)) ∧ Cyc g s (g.back s (g.lat.length + 1) v) := by
  have hway : ∀ k, k ≤ g.lat.length → g.back s k v < g.lat.length ∧ g.lat.length + 1 ≤ st (g.back s k v) + k := by
    intro k
    induction k with
    | zero => intro _; exact ⟨hv, by show _ ≤ st v + 0; omega⟩
    | succ k ih =>
      intro hk
      obtain ⟨h1, h2⟩ := ih (by omega)
      obtain ⟨o, h3⟩ := onWay_of I h1 (by omega)
      exact ⟨o.pr_lt h, by show _ ≤ st (g.pr s (g.back s k v)) + (k + 1); omega⟩
  have hon : ∀ k, k ≤ g.lat.length → OnWay g s (g.back s k v) := fun k hk => (onWay_of I (hway k hk).1 (by have := (hway k hk).2; omega)).1
  obtain ⟨a, b, hab, hb, he⟩ := repeats (n := g.lat.length) (x := fun k => g.back s k v) (fun i hi => (hway i hi).1)
  have hper : ∀ k, a ≤ k → g.back s (k + (b - a)) v = g.back s k v := by
    intro k hk
    obtain ⟨c, rfl⟩ : ∃ c, k = a + c := ⟨k - a, by omega⟩
    have e : a + c + (b - a) = b + c := by omega
    rw [e, back_add, back_add, show g.back s b v = g.back s a v from he.symm]
  have hall : ∀ k, ∃ k', k' ≤ g.lat.length ∧ g.back s k v = g.back s k' v := by
    intro k
    induction k using Nat.strongRecOn with
    | ind k ih =>
      by_cases hk : k ≤ g.lat.length
      · exact ⟨k, hk, rfl⟩
      · obtain ⟨k', h1, h2⟩ := ih (k - (b - a)) (by omega)
        refine ⟨k', h1, ?_⟩
        rw [← h2]
        have := hper (k - (b - a)) (by omega)
        rw [← this]
        congr 1
        omega
  have hw : ∀ k, OnWay g s (g.back s k v) := fun k => by
    obtain ⟨k', h1, h2⟩ := hall k
    rw [h2]; exact hon k' h1
  refine ⟨hw, fun k => by rw [← back_add]; exact hw _, b - a, by omega, by omega, ?_⟩
  rw [← back_add]
  exact hper _ (by omega)

end Go.Proofs.Ytcnikeonaklkoaa
