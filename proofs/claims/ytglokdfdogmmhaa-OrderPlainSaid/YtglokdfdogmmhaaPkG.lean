/- Graphs with delays, in plain Lean: the shortest ways by rounds over the edges; the cycle that is found. No program in sight. -/
namespace Go.Proofs.Ytglokdfdogmmhaa
set_option linter.unusedVariables false
set_option linter.unusedSimpArgs false

structure Edg where
  f : Int
  t : Int
  w : Int
  d : Int
deriving Inhabited
structure Gr where
  lat : List Int
  es : List Edg

def Edg.ok (n : Nat) (e : Edg) : Bool := decide (0 ≤ e.f ∧ e.f ≤ (n : Int) - 1) && decide (0 ≤ e.t ∧ e.t ≤ (n : Int) - 1) && decide (0 ≤ e.w ∧ e.w ≤ 64) && decide (0 ≤ e.d ∧ e.d ≤ 1048576)
def latOk (x : Int) : Bool := decide (0 ≤ x ∧ x ≤ 4096)
def Gr.formed (g : Gr) : Int := if g.lat.length > 4096 ∨ g.es.length > 16384 then 2 else if g.lat.all latOk && g.es.all (Edg.ok g.lat.length) then 0 else 210
structure Gr.OK (g : Gr) : Prop where
  n : g.lat.length ≤ 4096
  m : g.es.length ≤ 16384
  lat : ∀ x ∈ g.lat, 0 ≤ x ∧ x ≤ 4096
  es : ∀ e ∈ g.es, (0 ≤ e.f ∧ e.f < g.lat.length) ∧ (0 ≤ e.t ∧ e.t < g.lat.length) ∧ (0 ≤ e.w ∧ e.w ≤ 64) ∧ 0 ≤ e.d ∧ e.d ≤ 1048576
theorem Gr.ok_of {g : Gr} (h : g.formed = 0) : g.OK := by
  unfold Gr.formed at h
  split at h
  · omega
  · rename_i h1
    split at h
    · rename_i h2
      simp only [Bool.and_eq_true, List.all_eq_true] at h2
      refine ⟨by omega, by omega, fun x hx => by simpa [latOk] using h2.1 x hx, fun e he => ?_⟩
      have := h2.2 e he
      simp only [Edg.ok, Bool.and_eq_true, decide_eq_true_eq] at this
      omega
    · omega
abbrev Gr.nn (g : Gr) : Int := (g.lat.length : Int)
/-- What an edge is long: its delay without the latency of the node that it leaves. -/
def Gr.wt (g : Gr) (e : Edg) : Int := e.d - g.lat.getD e.f.toNat 0
def Gr.W (g : Gr) (e : Edg) : Int := (g.nn + 1) * g.wt e - 1
theorem getD_lt {α : Type} (l : List α) (d : α) {i : Nat} (h : i < l.length) : l.getD i d = l[i] := by simp [List.getD_eq_getElem?_getD, h]
theorem getD_ge {α : Type} (l : List α) (d : α) {i : Nat} (h : l.length ≤ i) : l.getD i d = d := by simp [List.getD_eq_getElem?_getD, h]
theorem getD_mem_or {l : List Int} {i : Nat} : l.getD i 0 ∈ l ∨ l.getD i 0 = 0 := by
  by_cases h : i < l.length
  · left; rw [getD_lt _ _ h]; exact List.getElem_mem h
  · right; rw [getD_ge _ _ (by omega)]
theorem Gr.lat_at {g : Gr} (h : g.OK) (i : Nat) : 0 ≤ g.lat.getD i 0 ∧ g.lat.getD i 0 ≤ 4096 := by
  rcases getD_mem_or (l := g.lat) (i := i) with h1 | h1
  · exact h.lat _ h1
  · omega
theorem Gr.wt_bd {g : Gr} (h : g.OK) {e : Edg} (he : e ∈ g.es) : -4096 ≤ g.wt e ∧ g.wt e ≤ 1048576 := by
  have h1 := g.lat_at h e.f.toNat
  have h2 := h.es e he
  unfold Gr.wt; omega

structure BF where
  far : List Int
  by_ : List Int
  last : Int
abbrev BF.F (s : BF) (v : Nat) : Int := s.far.getD v 0
abbrev BF.B (s : BF) (v : Nat) : Int := s.by_.getD v 0
def relax (g : Gr) (s : BF) (i : Nat) : BF :=
  let e := g.es.getD i default
  if s.F e.f.toNat + g.W e < s.F e.t.toNat then ⟨s.far.set e.t.toNat (s.F e.f.toNat + g.W e), s.by_.set e.t.toNat i, e.t⟩ else s
def passTo (g : Gr) (s : BF) (i : Nat) : BF := (List.range i).foldl (relax g) { s with last := -1 }
def pass (g : Gr) (s : BF) : BF := passTo g s g.es.length
theorem passTo_succ (g : Gr) (s : BF) (i : Nat) : passTo g s (i + 1) = relax g (passTo g s i) i := by
  simp [passTo, List.range_succ]
def rounds (g : Gr) : Nat → BF → BF
  | 0, s => s
  | k + 1, s => if (pass g s).last < 0 then pass g s else rounds g k (pass g s)
def Gr.start (g : Gr) : BF := ⟨List.replicate g.lat.length 0, List.replicate g.lat.length 0, -1⟩
def Gr.run (g : Gr) : BF := rounds g (g.lat.length + 1) g.start

theorem getD_set {l : List Int} {i j : Nat} {x : Int} (h : i < l.length) : (l.set i x).getD j 0 = if i = j then x else l.getD j 0 := by
  simp only [List.getD_eq_getElem?_getD, List.getElem?_set]
  by_cases hij : i = j
  · subst hij; simp [h]
  · simp [hij]

/-- Round r, the edges below i having been looked at; 'st': the round in which a node was reached last. -/
structure Inv (g : Gr) (r i : Nat) (s : BF) (st : Nat → Nat) : Prop where
  lenf : s.far.length = g.lat.length
  lenb : s.by_.length = g.lat.length
  le : ∀ v, st v ≤ r
  set : ∀ v, v < g.lat.length → 0 < st v → ∃ j, j < g.es.length ∧ s.B v = (j : Int) ∧ (g.es.getD j default).t.toNat = v ∧ s.F (g.es.getD j default).f.toNat + g.W (g.es.getD j default) ≤ s.F v ∧ st v ≤ st (g.es.getD j default).f.toNat + 1
  bys : ∀ v, v < g.lat.length → 0 ≤ s.B v
  rel : ∀ j, j < g.es.length → (j < i → s.F (g.es.getD j default).t.toNat ≤ s.F (g.es.getD j default).f.toNat + g.W (g.es.getD j default) ∨ r ≤ st (g.es.getD j default).f.toNat) ∧
    (i ≤ j → r ≤ 1 ∨ s.F (g.es.getD j default).t.toNat ≤ s.F (g.es.getD j default).f.toNat + g.W (g.es.getD j default) ∨ r ≤ st (g.es.getD j default).f.toNat + 1)
  last : (s.last = -1 ∧ ∀ v, st v < r) ∨ ∃ v, v < g.lat.length ∧ s.last = (v : Int) ∧ st v = r
  top : ∀ v, s.F v ≤ 0
  low : ∀ v, -((((r - 1) * g.es.length + i : Nat) : Int) * 16785408) ≤ s.F v

theorem Gr.edge {g : Gr} (h : g.OK) {j : Nat} (hj : j < g.es.length) : g.es.getD j default ∈ g.es ∧ (g.es.getD j default).f.toNat < g.lat.length ∧ (g.es.getD j default).t.toNat < g.lat.length ∧ 0 ≤ (g.es.getD j default).f ∧ 0 ≤ (g.es.getD j default).t := by
  have hm : g.es.getD j default ∈ g.es := by rw [getD_lt _ _ hj]; exact List.getElem_mem hj
  have := h.es _ hm
  exact ⟨hm, by omega, by omega, by omega, by omega⟩
theorem Gr.W_low {g : Gr} (h : g.OK) {e : Edg} (he : e ∈ g.es) : -16785408 ≤ g.W e ∧ g.W e ≤ 4296015872 := by
  have h1 := g.wt_bd h he
  have h2 := h.n
  unfold Gr.W Gr.nn
  have a : ((g.lat.length : Int) + 1) * g.wt e ≤ ((g.lat.length : Int) + 1) * 1048576 := Int.mul_le_mul_of_nonneg_left h1.2 (by omega)
  have b : ((g.lat.length : Int) + 1) * (-4096) ≤ ((g.lat.length : Int) + 1) * g.wt e := Int.mul_le_mul_of_nonneg_left h1.1 (by omega)
  omega

theorem inv_step {g : Gr} (h : g.OK) {r i : Nat} {s : BF} {st : Nat → Nat} (hr : 1 ≤ r) (hi : i < g.es.length) (I : Inv g r i s st) : ∃ st', Inv g r (i + 1) (relax g s i) st' := by
  obtain ⟨e, he⟩ : ∃ e, g.es.getD i default = e := ⟨_, rfl⟩
  obtain ⟨hm, hf, ht, hf0, ht0⟩ := he ▸ Gr.edge h hi
  have hW := Gr.W_low h hm
  have hrel : relax g s i = if s.F e.f.toNat + g.W e < s.F e.t.toNat then ⟨s.far.set e.t.toNat (s.F e.f.toNat + g.W e), s.by_.set e.t.toNat i, e.t⟩ else s := by
    unfold relax; simp only [he]
  rw [hrel]
  have hlow : ∀ v, -((((r - 1) * g.es.length + (i + 1) : Nat) : Int) * 16785408) ≤ s.F v := fun v => by have := I.low v; omega
  by_cases hd : s.F e.f.toNat + g.W e < s.F e.t.toNat
  · rw [if_pos hd]
    obtain ⟨d, hde⟩ : ∃ d, s.F e.f.toNat + g.W e = d := ⟨_, rfl⟩
    rw [hde] at hd ⊢
    have hF : ∀ v, BF.F ⟨s.far.set e.t.toNat d, s.by_.set e.t.toNat i, e.t⟩ v = if e.t.toNat = v then d else s.F v := fun v => getD_set (by rw [I.lenf]; exact ht)
    have hB : ∀ v, BF.B ⟨s.far.set e.t.toNat d, s.by_.set e.t.toNat i, e.t⟩ v = if e.t.toNat = v then (i : Int) else s.B v := fun v => getD_set (by rw [I.lenb]; exact ht)
    have hle : ∀ v, BF.F ⟨s.far.set e.t.toNat d, s.by_.set e.t.toNat i, e.t⟩ v ≤ s.F v := fun v => by
      rw [hF]; split
      · rename_i hv; rw [← hv]; omega
      · exact Int.le_refl _
    refine ⟨fun v => if e.t.toNat = v then r else st v, ?_⟩
    refine { lenf := by simpa using I.lenf, lenb := by simpa using I.lenb, le := fun v => by split; exact Nat.le_refl _; exact I.le v, set := fun v hv hs => ?_, bys := fun v hv => by rw [hB]; split; omega; exact I.bys v hv, rel := fun j hj => ?_, last := .inr ⟨e.t.toNat, ht, by show e.t = _; omega, by simp⟩, top := fun v => Int.le_trans (hle v) (I.top v), low := fun v => ?_ }
    · by_cases hv' : e.t.toNat = v
      · refine ⟨i, hi, by rw [hB, if_pos hv'], by rw [he]; exact hv', ?_, ?_⟩
        · rw [he, hF v, if_pos hv']
          have := hle e.f.toNat
          omega
        · rw [if_pos hv', he]
          by_cases h2 : e.t.toNat = e.f.toNat
          · rw [if_pos h2]; omega
          · rw [if_neg h2]
            have h3 := (I.rel i hi).2 (Nat.le_refl _)
            rw [he] at h3
            rcases h3 with h3 | h3 | h3
            · omega
            · omega
            · omega
      · rw [if_neg hv'] at hs
        obtain ⟨j, hj, h1, h2, h3, h4⟩ := I.set v hv hs
        refine ⟨j, hj, by rw [hB, if_neg hv']; exact h1, h2, ?_, ?_⟩
        · rw [hF v, if_neg hv']
          have := hle (g.es.getD j default).f.toNat
          omega
        · rw [if_neg hv']
          split
          · have := I.le v; omega
          · exact h4
    · have hstf : ∀ {k : Nat}, k ≤ st (g.es.getD j default).f.toNat → k ≤ r → k ≤ (if e.t.toNat = (g.es.getD j default).f.toNat then r else st (g.es.getD j default).f.toNat) := fun {k} h1 h2 => by split <;> assumption
      have hFj : (¬ e.t.toNat = (g.es.getD j default).f.toNat) → s.F (g.es.getD j default).t.toNat ≤ s.F (g.es.getD j default).f.toNat + g.W (g.es.getD j default) →
          BF.F ⟨s.far.set e.t.toNat d, s.by_.set e.t.toNat i, e.t⟩ (g.es.getD j default).t.toNat ≤ BF.F ⟨s.far.set e.t.toNat d, s.by_.set e.t.toNat i, e.t⟩ (g.es.getD j default).f.toNat + g.W (g.es.getD j default) := fun hne h1 => by
        rw [hF (g.es.getD j default).f.toNat, if_neg hne]
        have := hle (g.es.getD j default).t.toNat
        omega
      by_cases hne : e.t.toNat = (g.es.getD j default).f.toNat
      · refine ⟨fun _ => .inr (by rw [if_pos hne]; exact Nat.le_refl _), fun _ => .inr (.inr (by rw [if_pos hne]; omega))⟩
      · simp only [if_neg hne]
        refine ⟨fun hji => ?_, fun hji => ?_⟩
        · by_cases hji' : j = i
          · subst hji'
            rw [he] at hne ⊢
            left
            rw [hF e.t.toNat, if_pos rfl, hF e.f.toNat, if_neg hne]
            omega
          · rcases (I.rel j hj).1 (by omega) with h1 | h1
            · exact .inl (hFj hne h1)
            · exact .inr h1
        · rcases (I.rel j hj).2 (by omega) with h1 | h1 | h1
          · exact .inl h1
          · exact .inr (.inl (hFj hne h1))
          · exact .inr (.inr h1)
    · rw [hF]
      split
      · have := I.low e.f.toNat; omega
      · exact hlow v
  · rw [if_neg hd]
    refine ⟨st, { lenf := I.lenf, lenb := I.lenb, le := I.le, set := I.set, bys := I.bys, rel := fun j hj => ⟨fun hji => ?_, fun hji => (I.rel j hj).2 (by omega)⟩, last := I.last, top := I.top, low := hlow }⟩
    by_cases hji' : j = i
    · subst hji'
      rw [he]; left; omega
    · exact (I.rel j hj).1 (by omega)

theorem inv_start {g : Gr} : Inv g 1 0 g.start fun _ => 0 := by
  have hF : ∀ v, g.start.F v = 0 := fun v => by simp [Gr.start, BF.F, List.getD_eq_getElem?_getD, List.getElem?_replicate]; split <;> rfl
  have hB : ∀ v, g.start.B v = 0 := fun v => by simp [Gr.start, BF.B, List.getD_eq_getElem?_getD, List.getElem?_replicate]; split <;> rfl
  exact { lenf := by simp [Gr.start], lenb := by simp [Gr.start], le := fun _ => by omega, set := fun v _ h => by omega, bys := fun v _ => by rw [hB]; omega, rel := fun j _ => ⟨fun h => by omega, fun _ => .inl (by omega)⟩, last := .inl ⟨rfl, fun _ => by omega⟩, top := fun v => by rw [hF]; omega, low := fun v => by rw [hF]; simp }
theorem inv_next {g : Gr} {r : Nat} {s : BF} {st : Nat → Nat} (hr : 1 ≤ r) (I : Inv g r g.es.length s st) : Inv g (r + 1) 0 { s with last := -1 } st :=
  { lenf := I.lenf, lenb := I.lenb, le := fun v => by have := I.le v; omega, set := I.set, bys := I.bys
    rel := fun j hj => ⟨fun h => by omega, fun _ => .inr (by
      rcases (I.rel j hj).1 hj with h | h
      · exact .inl h
      · exact .inr (by omega))⟩
    last := .inl ⟨rfl, fun v => by have := I.le v; omega⟩, top := I.top
    low := fun v => by
      have := I.low v
      have e : (r + 1 - 1) * g.es.length + 0 = (r - 1) * g.es.length + g.es.length := by
        obtain ⟨k, rfl⟩ : ∃ k, r = k + 1 := ⟨r - 1, by omega⟩
        simp [Nat.succ_mul]
      rw [e]; exact this }
theorem inv_passTo {g : Gr} (h : g.OK) {r : Nat} {s : BF} {st : Nat → Nat} (hr : 1 ≤ r) (I : Inv g r 0 { s with last := -1 } st) : ∀ i, i ≤ g.es.length → ∃ st', Inv g r i (passTo g s i) st'
  | 0, _ => ⟨st, I⟩
  | i + 1, hi => by
    obtain ⟨st', I'⟩ := inv_passTo h hr I i (by omega)
    rw [passTo_succ]
    exact inv_step h hr (by omega) I'

/-- At the end of the rounds. -/
def Quiet (g : Gr) (s : BF) : Prop := ∀ e ∈ g.es, s.F e.t.toNat ≤ s.F e.f.toNat + g.W e
theorem rounds_end {g : Gr} (h : g.OK) : ∀ (k r : Nat) (s : BF) (st : Nat → Nat), 1 ≤ r → 1 ≤ k → Inv g r 0 { s with last := -1 } st →
    (((rounds g k s).last = -1 ∧ Quiet g (rounds g k s)) ∨ ∃ st', Inv g (r + k - 1) g.es.length (rounds g k s) st' ∧ ∃ v, v < g.lat.length ∧ (rounds g k s).last = (v : Int) ∧ st' v = r + k - 1)
  | 0, r, s, st, hr, hk, I => by omega
  | k + 1, r, s, st, hr, hk, I => by
    obtain ⟨st', I'⟩ := inv_passTo h hr I g.es.length (Nat.le_refl _)
    show (((if (pass g s).last < 0 then pass g s else rounds g k (pass g s)).last = -1 ∧ _) ∨ _)
    have I' : Inv g r g.es.length (pass g s) st' := I'
    have e : rounds g (k + 1) s = if (pass g s).last < 0 then pass g s else rounds g k (pass g s) := rfl
    rw [e]
    rcases I'.last with ⟨hl, hst⟩ | ⟨v, hv, hl, hst⟩
    · rw [if_pos (by omega)]
      refine .inl ⟨hl, fun e he => ?_⟩
      obtain ⟨j, hj, rfl⟩ := List.mem_iff_getElem.1 he
      have := (I'.rel j hj).1 hj
      rw [getD_lt _ _ hj] at this
      rcases this with h1 | h1
      · exact h1
      · have := hst (g.es[j]).f.toNat; omega
    · rw [if_neg (by omega)]
      by_cases hk0 : k = 0
      · subst hk0
        exact .inr ⟨st', I', v, hv, hl, hst⟩
      · have := rounds_end h k (r + 1) (pass g s) st' (by omega) (by omega) (inv_next hr I')
        have e2 : r + 1 + k - 1 = r + (k + 1) - 1 := by omega
        rw [e2] at this
        exact this
theorem run_end {g : Gr} (h : g.OK) : (g.run.last = -1 ∧ Quiet g g.run) ∨ ∃ st, Inv g (g.lat.length + 1) g.es.length g.run st ∧ ∃ v, v < g.lat.length ∧ g.run.last = (v : Int) ∧ st v = g.lat.length + 1 := by
  have := rounds_end h (g.lat.length + 1) 1 g.start (fun _ => 0) (by omega) (by omega) inv_start
  have e : 1 + (g.lat.length + 1) - 1 = g.lat.length + 1 := by omega
  rw [e] at this
  exact this

/-! The way back. -/
def Gr.pr (g : Gr) (s : BF) (v : Nat) : Nat := (g.es.getD (s.B v).toNat default).f.toNat
def Gr.back (g : Gr) (s : BF) : Nat → Nat → Nat
  | 0, v => v
  | k + 1, v => g.pr s (g.back s k v)
theorem back_add (g : Gr) (s : BF) (a b v : Nat) : g.back s (a + b) v = g.back s b (g.back s a v) := by
  induction b with
  | zero => rfl
  | succ b ih => show g.pr s (g.back s (a + b) v) = _; rw [ih]; rfl

theorem pigeon : ∀ (n : Nat) (l : List Nat), l.Nodup → (∀ x ∈ l, x < n) → l.length ≤ n
  | 0, l, _, h => by
    cases l with
    | nil => simp
    | cons x r => have := h x (by simp); omega
  | n + 1, l, hd, h => by
    have h1 := pigeon n (l.erase n) (hd.erase n) (fun x hx => by
      have h2 := h x (List.mem_of_mem_erase hx)
      have h3 : x ≠ n := fun e => by subst e; exact (List.Nodup.not_mem_erase hd) hx
      omega)
    have h2 := List.length_erase_le (a := n) (l := l)
    have h3 : l.length ≤ (l.erase n).length + 1 := by
      rw [List.length_erase]; split <;> omega
    omega
theorem repeats {n : Nat} {x : Nat → Nat} (h : ∀ i, i ≤ n → x i < n) : ∃ a b, a < b ∧ b ≤ n ∧ x a = x b := by
  refine Classical.byContradiction fun hno => ?_
  have hnd : ((List.range (n + 1)).map x).Nodup := by
    rw [List.nodup_iff_pairwise_ne, List.pairwise_map]
    refine List.Pairwise.imp_of_mem ?_ (List.pairwise_lt_range (n := n + 1))
    intro a b ha hb hab e
    exact hno ⟨a, b, hab, by simp at hb; omega, e⟩
  have := pigeon n _ hnd (fun y hy => by
    obtain ⟨i, hi, rfl⟩ := List.mem_map.1 hy
    exact h i (by simp at hi; omega))
  simp at this
  omega

/-- The nodes from which one can go back for ever. -/
structure OnWay (g : Gr) (s : BF) (v : Nat) : Prop where
  lt : v < g.lat.length
  ed : ∃ j, j < g.es.length ∧ s.B v = (j : Int) ∧ (g.es.getD j default).t.toNat = v ∧ s.F (g.es.getD j default).f.toNat + g.W (g.es.getD j default) ≤ s.F v
theorem onWay_of {g : Gr} {r i : Nat} {s : BF} {st : Nat → Nat} (I : Inv g r i s st) {v : Nat} (hv : v < g.lat.length) (hs : 0 < st v) : OnWay g s v ∧ st v ≤ st (g.pr s v) + 1 := by
  obtain ⟨j, hj, h1, h2, h3, h4⟩ := I.set v hv hs
  refine ⟨⟨hv, j, hj, h1, h2, h3⟩, ?_⟩
  unfold Gr.pr
  rw [h1]; simpa using h4
theorem OnWay.pr_lt {g : Gr} (h : g.OK) {s : BF} {v : Nat} (o : OnWay g s v) : g.pr s v < g.lat.length := by
  obtain ⟨j, hj, h1, _⟩ := o.ed
  unfold Gr.pr
  rw [h1]
  exact (Gr.edge h (j := (j : Int).toNat) (by simpa using hj)).2.1

structure Cyc (g : Gr) (s : BF) (x : Nat) : Prop where
  way : ∀ k, OnWay g s (g.back s k x)
  per : ∃ k, 0 < k ∧ k ≤ g.lat.length ∧ g.back s k x = x
theorem cycle_of {g : Gr} (h : g.OK) {s : BF} {st : Nat → Nat} {v : Nat} (I : Inv g (g.lat.length + 1) g.es.length s st) (hv : v < g.lat.length) (hst : st v = g.lat.length + 1) :
    (∀ k, OnWay g s (g.back s k v)) ∧ Cyc g s (g.back s (g.lat.length + 1) v) := by
  have hway : ∀ k, k ≤ g.lat.length → g.back s k v < g.lat.length ∧ g.lat.length + 1 ≤ st (g.back s k v) + k := by
    intro k
    induction k with
    | zero => intro _; exact ⟨hv, by show _ ≤ st v + 0; omega⟩
    | succ k ih =>
      intro hk
      obtain ⟨h1, h2⟩ := ih (by omega)
      obtain ⟨o, h3⟩ := onWay_of I h1 (by omega)
      exact ⟨o.pr_lt h, by show _ ≤ st (g.pr s (g.back s k v)) + (k + 1); omega⟩
  have hon : ∀ k, k ≤ g.lat.length → OnWay g s (g.back s k v) := fun k hk => (onWay_of I (hway k hk).1 (by have := (hway k hk).2; omega)).1
  obtain ⟨a, b, hab, hb, he⟩ := repeats (n := g.lat.length) (x := fun k => g.back s k v) (fun i hi => (hway i hi).1)
  have hper : ∀ k, a ≤ k → g.back s (k + (b - a)) v = g.back s k v := by
    intro k hk
    obtain ⟨c, rfl⟩ : ∃ c, k = a + c := ⟨k - a, by omega⟩
    have e : a + c + (b - a) = b + c := by omega
    rw [e, back_add, back_add, show g.back s b v = g.back s a v from he.symm]
  have hall : ∀ k, ∃ k', k' ≤ g.lat.length ∧ g.back s k v = g.back s k' v := by
    intro k
    induction k using Nat.strongRecOn with
    | ind k ih =>
      by_cases hk : k ≤ g.lat.length
      · exact ⟨k, hk, rfl⟩
      · obtain ⟨k', h1, h2⟩ := ih (k - (b - a)) (by omega)
        refine ⟨k', h1, ?_⟩
        rw [← h2]
        have := hper (k - (b - a)) (by omega)
        rw [← this]
        congr 1
        omega
  have hw : ∀ k, OnWay g s (g.back s k v) := fun k => by
    obtain ⟨k', h1, h2⟩ := hall k
    rw [h2]; exact hon k' h1
  refine ⟨hw, fun k => by rw [← back_add]; exact hw _, b - a, by omega, by omega, ?_⟩
  rw [← back_add]
  exact hper _ (by omega)

end Go.Proofs.Ytglokdfdogmmhaa

/- The shortest ways by nodes, in plain Lean; that they find a cycle that is too short just where the rounds do. No program in sight. -/
namespace Go.Proofs.Ytglokdfdogmmhaa
set_option linter.unusedVariables false
set_option linter.unusedSimpArgs false

abbrev FAR : Int := 1099511627776
abbrev wa (w : List (List Int)) (i k : Nat) : Int := (w.getD i []).getD k 0
def mset (w : List (List Int)) (i k : Nat) (x : Int) : List (List Int) := w.set i ((w.getD i []).set k x)
structure Sq (n : Nat) (w : List (List Int)) : Prop where
  len : w.length = n
  row : ∀ i, i < n → (w.getD i []).length = n
theorem getDL_set {l : List (List Int)} {i j : Nat} {x : List Int} (h : i < l.length) : (l.set i x).getD j [] = if i = j then x else l.getD j [] := by
  simp only [List.getD_eq_getElem?_getD, List.getElem?_set]
  by_cases hij : i = j
  · subst hij; simp [h]
  · simp [hij]
theorem Sq.mset {n : Nat} {w : List (List Int)} (h : Sq n w) {i k : Nat} (hi : i < n) (x : Int) : Sq n (mset w i k x) := by
  refine ⟨by simp [Go.Proofs.Ytglokdfdogmmhaa.mset, h.len], fun j hj => ?_⟩
  unfold Go.Proofs.Ytglokdfdogmmhaa.mset
  rw [getDL_set (by rw [h.len]; exact hi)]
  split
  · rw [List.length_set]; exact h.row i hi
  · exact h.row j hj
theorem wa_mset {n : Nat} {w : List (List Int)} (h : Sq n w) {i k : Nat} (hi : i < n) (hk : k < n) (x : Int) (a b : Nat) : wa (mset w i k x) a b = if i = a ∧ k = b then x else wa w a b := by
  unfold mset wa
  rw [getDL_set (by rw [h.len]; exact hi)]
  by_cases ha : i = a
  · subst ha
    rw [if_pos rfl, getD_set (by rw [h.row i hi]; exact hk)]
    by_cases hb : k = b
    · simp [hb]
    · simp [hb]
  · simp [ha]

def way0 (n : Nat) : List (List Int) := List.replicate n (List.replicate n FAR)
def wayE (g : Gr) (w : List (List Int)) (i : Nat) : List (List Int) :=
  let e := g.es.getD i default
  mset w e.f.toNat e.t.toNat (min (wa w e.f.toNat e.t.toNat) (g.wt e))
def wayEs (g : Gr) (i : Nat) : List (List Int) := (List.range i).foldl (wayE g) (way0 g.lat.length)
def fw1 (m i : Nat) (w : List (List Int)) (k : Nat) : List (List Int) :=
  if wa w i m < FAR ∧ wa w m k < FAR then mset w i k (max (-FAR) (min (wa w i k) (wa w i m + wa w m k))) else w
def fwK (m i : Nat) (w : List (List Int)) (k : Nat) : List (List Int) := (List.range k).foldl (fw1 m i) w
def fwI (n m : Nat) (w : List (List Int)) (i : Nat) : List (List Int) := (List.range i).foldl (fun w i => fwK m i w n) w
def fwM (g : Gr) (m : Nat) : List (List Int) := (List.range m).foldl (fun w m => fwI g.lat.length m w g.lat.length) (wayEs g g.es.length)
def Gr.short (g : Gr) : Bool := (List.range g.lat.length).any fun i => decide (wa (fwM g g.lat.length) i i ≤ 0)
theorem wayEs_succ (g : Gr) (i : Nat) : wayEs g (i + 1) = wayE g (wayEs g i) i := by simp [wayEs, List.range_succ]
theorem fwK_succ (m i : Nat) (w : List (List Int)) (k : Nat) : fwK m i w (k + 1) = fw1 m i (fwK m i w k) k := by simp [fwK, List.range_succ]
theorem fwI_succ (n m : Nat) (w : List (List Int)) (i : Nat) : fwI n m w (i + 1) = fwK m i (fwI n m w i) n := by simp [fwI, List.range_succ]
theorem fwM_succ (g : Gr) (m : Nat) : fwM g (m + 1) = fwI g.lat.length m (fwM g m) g.lat.length := by simp [fwM, List.range_succ]

/-- What holds of all ways: within bounds. -/
structure Way (n : Nat) (w : List (List Int)) : Prop where
  sq : Sq n w
  lo : ∀ a b, a < n → b < n → -FAR ≤ wa w a b
  hi : ∀ a b, a < n → b < n → wa w a b ≤ FAR
theorem Way.set {n : Nat} {w : List (List Int)} (h : Way n w) {i k : Nat} (hi : i < n) (hk : k < n) {x : Int} (h1 : -FAR ≤ x) (h2 : x ≤ FAR) : Way n (mset w i k x) :=
  ⟨h.sq.mset hi x, fun a b ha hb => by rw [wa_mset h.sq hi hk]; split; exact h1; exact h.lo a b ha hb, fun a b ha hb => by rw [wa_mset h.sq hi hk]; split; exact h2; exact h.hi a b ha hb⟩
theorem way0_at {n a b : Nat} (ha : a < n) (hb : b < n) : wa (way0 n) a b = FAR := by
  simp [way0, wa, List.getD_eq_getElem?_getD, List.getElem?_replicate, ha, hb]
theorem way_way0 (n : Nat) : Way n (way0 n) := by
  refine ⟨⟨by simp [way0], fun i hi => by simp [way0, List.getD_eq_getElem?_getD, List.getElem?_replicate, hi]⟩, fun a b ha hb => ?_, fun a b ha hb => ?_⟩
  · rw [way0_at ha hb]; decide
  · rw [way0_at ha hb]; exact Int.le_refl _

/-! One way round: where no round's step is left, no way is too short. -/
def Pot (g : Gr) (F : Nat → Int) (w : List (List Int)) : Prop := ∀ a b, a < g.lat.length → b < g.lat.length → wa w a b < FAR → F b - F a ≤ (g.nn + 1) * wa w a b - 1
theorem wayE_ok {g : Gr} (h : g.OK) {w : List (List Int)} (hw : Way g.lat.length w) {i : Nat} (hi : i < g.es.length) : Way g.lat.length (wayE g w i) := by
  obtain ⟨hm, hf, ht, _, _⟩ := Gr.edge h hi
  have := g.wt_bd h hm
  unfold wayE
  refine hw.set hf ht ?_ ?_
  · have := hw.lo _ _ hf ht; simp only [FAR] at *; omega
  · have := hw.hi _ _ hf ht; simp only [FAR] at *; omega
theorem wayEs_ok {g : Gr} (h : g.OK) : ∀ i, i ≤ g.es.length → Way g.lat.length (wayEs g i)
  | 0, _ => way_way0 _
  | i + 1, hi => by rw [wayEs_succ]; exact wayE_ok h (wayEs_ok h i (by omega)) (by omega)
theorem fw1_ok {n m i k : Nat} {w : List (List Int)} (hw : Way n w) (hi : i < n) (hk : k < n) : Way n (fw1 m i w k) := by
  unfold fw1
  split
  · refine hw.set hi hk (Int.le_max_left _ _) ?_
    have := hw.hi i k hi hk
    simp only [FAR] at *; omega
  · exact hw
theorem fwK_ok {n m i : Nat} {w : List (List Int)} (hw : Way n w) (hi : i < n) : ∀ k, k ≤ n → Way n (fwK m i w k)
  | 0, _ => hw
  | k + 1, hk => by rw [fwK_succ]; exact fw1_ok (fwK_ok hw hi k (by omega)) hi (by omega)
theorem fwI_ok {n m : Nat} {w : List (List Int)} (hw : Way n w) : ∀ i, i ≤ n → Way n (fwI n m w i)
  | 0, _ => hw
  | i + 1, hi => by rw [fwI_succ]; exact fwK_ok (fwI_ok hw i (by omega)) (by omega) n (Nat.le_refl _)
theorem fwM_ok {g : Gr} (h : g.OK) : ∀ m, Way g.lat.length (fwM g m)
  | 0 => wayEs_ok h _ (Nat.le_refl _)
  | m + 1 => by rw [fwM_succ]; exact fwI_ok (fwM_ok h m) _ (Nat.le_refl _)

theorem pot_E {g : Gr} (h : g.OK) {s : BF} (hq : Quiet g s) {w : List (List Int)} (hw : Way g.lat.length w) (hp : Pot g s.F w) {i : Nat} (hi : i < g.es.length) : Pot g s.F (wayE g w i) := by
  obtain ⟨hm, hf, ht, _, _⟩ := Gr.edge h hi
  intro a b ha hb hl
  unfold wayE at hl ⊢
  rw [wa_mset hw.sq hf ht] at hl ⊢
  split at hl
  · rename_i hc
    rw [if_pos hc]
    obtain ⟨rfl, rfl⟩ := hc
    rcases Int.le_total (wa w (g.es.getD i default).f.toNat (g.es.getD i default).t.toNat) (g.wt (g.es.getD i default)) with h1 | h1
    · rw [Int.min_eq_left h1] at hl ⊢; exact hp _ _ ha hb hl
    · rw [Int.min_eq_right h1]
      have := hq _ hm
      unfold Gr.W at this
      omega
  · rename_i hc
    rw [if_neg hc]
    exact hp a b ha hb hl
theorem pot_1 {g : Gr} {F : Nat → Int} {w : List (List Int)} (hw : Way g.lat.length w) (hp : Pot g F w) {m i k : Nat} (hm : m < g.lat.length) (hi : i < g.lat.length) (hk : k < g.lat.length) : Pot g F (fw1 m i w k) := by
  unfold fw1
  split
  · rename_i hc
    intro a b ha hb hl
    rw [wa_mset hw.sq hi hk] at hl ⊢
    split at hl
    · rename_i hab
      rw [if_pos hab]
      obtain ⟨rfl, rfl⟩ := hab
      have h1 := hp i m hi hm hc.1
      have h2 := hp m k hm hk hc.2
      obtain ⟨z, hz⟩ : ∃ z, min (wa w i k) (wa w i m + wa w m k) = z := ⟨_, rfl⟩
      rw [hz] at hl ⊢
      have h3 : F k - F i ≤ (g.nn + 1) * z - 1 ∨ z = FAR := by
        rcases Int.le_total (wa w i k) (wa w i m + wa w m k) with h4 | h4
        · rw [Int.min_eq_left h4] at hz
          by_cases h5 : wa w i k < FAR
          · left; rw [← hz]; exact hp i k hi hk h5
          · right; have := hw.hi i k hi hk; omega
        · rw [Int.min_eq_right h4] at hz
          left
          rw [← hz, Int.mul_add]
          omega
      rcases h3 with h3 | h3
      · have h4 : (g.nn + 1) * z ≤ (g.nn + 1) * max (-FAR) z := Int.mul_le_mul_of_nonneg_left (Int.le_max_right _ _) (by unfold Gr.nn; omega)
        omega
      · rw [h3] at hl
        simp only [FAR] at hl
        omega
    · rename_i hab
      rw [if_neg hab]
      exact hp a b ha hb hl
  · exact hp
theorem pot_K {g : Gr} {F : Nat → Int} {w : List (List Int)} (hw : Way g.lat.length w) (hp : Pot g F w) {m i : Nat} (hm : m < g.lat.length) (hi : i < g.lat.length) : ∀ k, k ≤ g.lat.length → Pot g F (fwK m i w k)
  | 0, _ => hp
  | k + 1, hk => by rw [fwK_succ]; exact pot_1 (fwK_ok hw hi k (by omega)) (pot_K hw hp hm hi k (by omega)) hm hi (by omega)
theorem pot_I {g : Gr} {F : Nat → Int} {w : List (List Int)} (hw : Way g.lat.length w) (hp : Pot g F w) {m : Nat} (hm : m < g.lat.length) : ∀ i, i ≤ g.lat.length → Pot g F (fwI g.lat.length m w i)
  | 0, _ => hp
  | i + 1, hi => by rw [fwI_succ]; exact pot_K (fwI_ok hw i (by omega)) (pot_I hw hp hm i (by omega)) hm (by omega) _ (Nat.le_refl _)
theorem pot_Es {g : Gr} (h : g.OK) {s : BF} (hq : Quiet g s) : ∀ i, i ≤ g.es.length → Pot g s.F (wayEs g i)
  | 0, _ => fun a b ha hb hl => by
    have : wa (wayEs g 0) a b = FAR := way0_at ha hb
    omega
  | i + 1, hi => by rw [wayEs_succ]; exact pot_E h hq (wayEs_ok h i (by omega)) (pot_Es h hq i (by omega)) (by omega)
theorem pot_M {g : Gr} (h : g.OK) {s : BF} (hq : Quiet g s) : ∀ m, m ≤ g.lat.length → Pot g s.F (fwM g m)
  | 0, _ => pot_Es h hq _ (Nat.le_refl _)
  | m + 1, hm => by rw [fwM_succ]; exact pot_I (fwM_ok h m) (pot_M h hq m (by omega)) (by omega) _ (Nat.le_refl _)
theorem quiet_long {g : Gr} (h : g.OK) {s : BF} (hq : Quiet g s) : g.short = false := by
  cases hs : g.short with
  | false => rfl
  | true =>
    simp only [Gr.short, List.any_eq_true, List.mem_range, decide_eq_true_eq] at hs
    obtain ⟨i, hi, hle⟩ := hs
    have := pot_M h hq g.lat.length (Nat.le_refl _) i i hi hi (by simp only [FAR]; omega)
    have h2 : (g.nn + 1) * wa (fwM g g.lat.length) i i ≤ 0 := Int.mul_nonpos_of_nonneg_of_nonpos (by unfold Gr.nn; omega) hle
    omega

/-! The other way round: a closed way of few edges that is too short is found. -/
inductive Wk (g : Gr) (m : Nat) : Nat → Nat → Nat → Int → Prop
  | edge (e : Edg) (he : e ∈ g.es) : Wk g m e.f.toNat e.t.toNat 1 (g.wt e)
  | comp {i j k l1 l2 : Nat} {s1 s2 : Int} (h1 : Wk g m i j l1 s1) (h2 : Wk g m j k l2 s2) (hj : j < m) : Wk g m i k (l1 + l2) (s1 + s2)
theorem Wk.bd {g : Gr} (h : g.OK) {m i k l : Nat} {s : Int} (w : Wk g m i k l s) : i < g.lat.length ∧ k < g.lat.length ∧ 1 ≤ l ∧ -((l : Int) * 4096) ≤ s ∧ s ≤ (l : Int) * 1048576 := by
  induction w with
  | edge e he =>
    have := g.wt_bd h he
    have := h.es e he
    omega
  | comp h1 h2 hj ih1 ih2 => omega
theorem Wk.up {g : Gr} {m m' : Nat} (hm : m ≤ m') {i k l : Nat} {s : Int} (w : Wk g m i k l s) : Wk g m' i k l s := by
  induction w with
  | edge e he => exact .edge e he
  | comp h1 h2 hj ih1 ih2 => exact .comp ih1 ih2 (by omega)

/-- A way over the nodes up to m: one over the nodes below m, or one to m and one from m; where no way from m to m is too short. -/
theorem Wk.split {g : Gr} {m N : Nat} (hpos : ∀ l s, l ≤ N → Wk g m m m l s → 0 ≤ s) {i k l : Nat} {s : Int} (w : Wk g (m + 1) i k l s) : l ≤ N →
    (∃ l' s', l' ≤ l ∧ s' ≤ s ∧ Wk g m i k l' s') ∨ ∃ l1 s1 l2 s2, l1 + l2 ≤ l ∧ s1 + s2 ≤ s ∧ Wk g m i m l1 s1 ∧ Wk g m m k l2 s2 := by
  induction w with
  | edge e he => intro _; exact .inl ⟨1, _, Nat.le_refl _, Int.le_refl _, .edge e he⟩
  | @comp i j k l1 l2 s1 s2 h1 h2 hj ih1 ih2 =>
    intro hN
    have hl1 : l1 ≤ N := by omega
    have hl2 : l2 ≤ N := by omega
    by_cases hjm : j = m
    · subst hjm
      have A : ∃ l' s', l' ≤ l1 ∧ s' ≤ s1 ∧ Wk g j i j l' s' := by
        rcases ih1 hl1 with h | ⟨a, sa, b, sb, h3, h4, h5, h6⟩
        · exact h
        · have := hpos b sb (by omega) h6
          exact ⟨a, sa, by omega, by omega, h5⟩
      have B : ∃ l' s', l' ≤ l2 ∧ s' ≤ s2 ∧ Wk g j j k l' s' := by
        rcases ih2 hl2 with h | ⟨a, sa, b, sb, h3, h4, h5, h6⟩
        · exact h
        · have := hpos a sa (by omega) h5
          exact ⟨b, sb, by omega, by omega, h6⟩
      obtain ⟨la, sa, h3, h4, h5⟩ := A
      obtain ⟨lb, sb, h6, h7, h8⟩ := B
      exact .inr ⟨la, sa, lb, sb, by omega, by omega, h5, h8⟩
    · have hjl : j < m := by omega
      rcases ih1 hl1 with ⟨la, sa, h3, h4, h5⟩ | ⟨la, sa, lb, sb, h3, h4, h5, h6⟩
      · rcases ih2 hl2 with ⟨lc, sc, h7, h8, h9⟩ | ⟨lc, sc, ld, sd, h7, h8, h9, h10⟩
        · exact .inl ⟨la + lc, sa + sc, by omega, by omega, .comp h5 h9 hjl⟩
        · exact .inr ⟨la + lc, sa + sc, ld, sd, by omega, by omega, .comp h5 h9 hjl, h10⟩
      · rcases ih2 hl2 with ⟨lc, sc, h7, h8, h9⟩ | ⟨lc, sc, ld, sd, h7, h8, h9, h10⟩
        · exact .inr ⟨la, sa, lb + lc, sb + sc, by omega, by omega, h5, .comp h6 h9 hjl⟩
        · have := hpos (lb + lc) (sb + sc) (by omega) (.comp h6 h9 hjl)
          exact .inr ⟨la, sa, ld, sd, by omega, by omega, h5, h10⟩

/-- Later ways are no longer. -/
def Le (n : Nat) (w w' : List (List Int)) : Prop := ∀ a b, a < n → b < n → wa w' a b ≤ wa w a b
def Good (n m : Nat) (w w' : List (List Int)) (i k : Nat) : Prop := wa w i m < FAR → wa w m k < FAR → wa w' i k ≤ max (-FAR) (wa w i m + wa w m k)
theorem fw1_le {n m i k : Nat} {w : List (List Int)} (hw : Way n w) (hi : i < n) (hk : k < n) : Le n w (fw1 m i w k) := by
  intro a b ha hb
  unfold fw1
  split
  · rw [wa_mset hw.sq hi hk]
    split
    · rename_i hc
      obtain ⟨rfl, rfl⟩ := hc
      have := hw.lo i k hi hk
      omega
    · exact Int.le_refl _
  · exact Int.le_refl _
theorem fw1_good {n m i k : Nat} {w0 w : List (List Int)} (hw : Way n w) (hle : Le n w0 w) (hm : m < n) (hi : i < n) (hk : k < n) : Good n m w0 (fw1 m i w k) i k := by
  intro h1 h2
  have h3 := hle i m hi hm
  have h4 := hle m k hm hk
  unfold fw1
  rw [if_pos ⟨by omega, by omega⟩, wa_mset hw.sq hi hk, if_pos ⟨rfl, rfl⟩]
  omega
theorem Le.good {n m : Nat} {w0 w w' : List (List Int)} (h : Le n w w') {i k : Nat} (hi : i < n) (hk : k < n) (hg : Good n m w0 w i k) : Good n m w0 w' i k := fun h1 h2 => Int.le_trans (h i k hi hk) (hg h1 h2)
theorem Le.trans {n : Nat} {a b c : List (List Int)} (h : Le n a b) (k : Le n b c) : Le n a c := fun i j hi hj => Int.le_trans (k i j hi hj) (h i j hi hj)
theorem fwK_good {n m i : Nat} {w0 w : List (List Int)} (hw : Way n w) (hle : Le n w0 w) (hm : m < n) (hi : i < n) : ∀ k, k ≤ n → Le n w (fwK m i w k) ∧ ∀ k', k' < k → Good n m w0 (fwK m i w k) i k'
  | 0, _ => ⟨fun _ _ _ _ => Int.le_refl _, fun k' h => by omega⟩
  | k + 1, hk => by
    obtain ⟨h1, h2⟩ := fwK_good hw hle hm hi k (by omega)
    have hok := fwK_ok (m := m) hw hi k (by omega)
    have h3 := fw1_le (m := m) hok hi (k := k) (by omega)
    rw [fwK_succ]
    refine ⟨h1.trans h3, fun k' hk' => ?_⟩
    by_cases he : k' = k
    · subst he; exact fw1_good hok (hle.trans h1) hm hi (by omega)
    · exact h3.good hi (by omega) (h2 k' (by omega))
theorem fwI_good {n m : Nat} {w : List (List Int)} (hw : Way n w) (hm : m < n) : ∀ i, i ≤ n → Le n w (fwI n m w i) ∧ ∀ i' k', i' < i → k' < n → Good n m w (fwI n m w i) i' k'
  | 0, _ => ⟨fun _ _ _ _ => Int.le_refl _, fun i' k' h => by omega⟩
  | i + 1, hi => by
    obtain ⟨h1, h2⟩ := fwI_good hw hm i (by omega)
    have hok := fwI_ok (m := m) hw i (by omega)
    obtain ⟨h3, h4⟩ := fwK_good (w0 := w) hok h1 hm (i := i) (by omega) n (Nat.le_refl _)
    rw [fwI_succ]
    refine ⟨h1.trans h3, fun i' k' hi' hk' => ?_⟩
    by_cases he : i' = i
    · subst he; exact h4 k' hk'
    · exact h3.good (by omega) hk' (h2 i' k' (by omega) hk')
theorem wayE_le {g : Gr} (h : g.OK) {w : List (List Int)} (hw : Way g.lat.length w) {i : Nat} (hi : i < g.es.length) : Le g.lat.length w (wayE g w i) := by
  obtain ⟨hm, hf, ht, _, _⟩ := Gr.edge h hi
  intro a b ha hb
  unfold wayE
  rw [wa_mset hw.sq hf ht]
  split
  · rename_i hc
    obtain ⟨rfl, rfl⟩ := hc
    exact Int.min_le_left _ _
  · exact Int.le_refl _
theorem wayEs_at {g : Gr} (h : g.OK) : ∀ i, i ≤ g.es.length → ∀ j, j < i → wa (wayEs g i) (g.es.getD j default).f.toNat (g.es.getD j default).t.toNat ≤ g.wt (g.es.getD j default)
  | 0, _, j, hj => by omega
  | i + 1, hi, j, hj => by
    have hok := wayEs_ok h i (by omega)
    rw [wayEs_succ]
    by_cases he : j = i
    · subst he
      obtain ⟨hm, hf, ht, _, _⟩ := Gr.edge h (j := j) (by omega)
      unfold wayE
      rw [wa_mset hok.sq hf ht, if_pos ⟨rfl, rfl⟩]
      exact Int.min_le_right _ _
    · obtain ⟨hm, hf, ht, _, _⟩ := Gr.edge h (j := j) (by omega)
      exact Int.le_trans (wayE_le h hok (by omega) _ _ hf ht) (wayEs_at h i (by omega) j (by omega))
theorem fwM_le {g : Gr} (h : g.OK) (m : Nat) : ∀ d, m + d ≤ g.lat.length → Le g.lat.length (fwM g m) (fwM g (m + d))
  | 0, _ => fun _ _ _ _ => Int.le_refl _
  | d + 1, hd => by
    have := (fwI_good (fwM_ok h (m + d)) (m := m + d) (by omega) g.lat.length (Nat.le_refl _)).1
    rw [← fwM_succ] at this
    exact (fwM_le h m d (by omega)).trans this
theorem fwM_wk {g : Gr} (h : g.OK) (hpos : ∀ i, i < g.lat.length → 0 < wa (fwM g g.lat.length) i i) : ∀ m, m ≤ g.lat.length → ∀ {i k l : Nat} {s : Int}, Wk g m i k l s → l ≤ g.lat.length → wa (fwM g m) i k ≤ s
  | 0, _, i, k, l, s, w, hl => by
    cases w with
    | edge e he =>
      obtain ⟨j, hj, rfl⟩ := List.mem_iff_getElem.1 he
      have := wayEs_at h g.es.length (Nat.le_refl _) j hj
      rw [getD_lt _ _ hj] at this
      exact this
    | comp h1 h2 hj => omega
  | m + 1, hm, i, k, l, s, w, hl => by
    have ih := @fwM_wk g h hpos m (by omega)
    have hw := fwM_ok h m
    obtain ⟨hle, hgd⟩ := fwI_good hw (m := m) (by omega) g.lat.length (Nat.le_refl _)
    rw [← fwM_succ] at hle hgd
    have hbd := w.bd h
    rcases Wk.split (N := g.lat.length) (fun l s hl w => by
      have h1 := ih w hl
      have h2 := fwM_le h m (g.lat.length - m) (by omega) m m (by omega) (by omega)
      rw [show m + (g.lat.length - m) = g.lat.length by omega] at h2
      have h3 := hpos m (by omega)
      omega) w hl with ⟨l', s', h1, h2, h3⟩ | ⟨l1, s1, l2, s2, h1, h2, h3, h4⟩
    · have := ih h3 (by omega)
      have := hle i k hbd.1 hbd.2.1
      omega
    · have a := ih h3 (by omega)
      have b := ih h4 (by omega)
      have ba := h3.bd h
      have bb := h4.bd h
      have hn := h.n
      have := hgd i k hbd.1 hbd.2.1 (by simp only [FAR]; omega) (by simp only [FAR]; omega)
      simp only [FAR] at this
      omega

/-- The cycle that is found, as a closed way. -/
theorem back_wk {g : Gr} (h : g.OK) {s : BF} {x : Nat} (c : Cyc g s x) : ∀ k, 0 < k → ∃ S, Wk g g.lat.length (g.back s k x) x k S ∧ s.F (g.back s k x) + ((g.nn + 1) * S - k) ≤ s.F x
  | 0, hk => by omega
  | k + 1, _ => by
    obtain ⟨hlt, j, hj, hB, ht, hF⟩ := c.way k
    obtain ⟨hm, hf, _, _, _⟩ := Gr.edge h hj
    have hp : g.back s (k + 1) x = (g.es.getD j default).f.toNat := by
      show g.pr s (g.back s k x) = _
      unfold Gr.pr; rw [hB]; simp
    have hW : g.W (g.es.getD j default) = (g.nn + 1) * g.wt (g.es.getD j default) - 1 := rfl
    have hE := Wk.edge (m := g.lat.length) _ hm
    rw [ht] at hE
    rw [hp]
    by_cases hk0 : k = 0
    · subst hk0
      refine ⟨_, hE, ?_⟩
      have : g.back s 0 x = x := rfl
      rw [this] at hF
      omega
    · obtain ⟨S, h1, h2⟩ := back_wk h c k (by omega)
      refine ⟨g.wt (g.es.getD j default) + S, by rw [Nat.add_comm k 1]; exact .comp hE h1 hlt, ?_⟩
      rw [Int.mul_add]
      omega
theorem cyc_short {g : Gr} (h : g.OK) {s : BF} {x : Nat} (c : Cyc g s x) : g.short = true := by
  obtain ⟨k, hk0, hkn, hkx⟩ := c.per
  obtain ⟨S, h1, h2⟩ := back_wk h c k hk0
  rw [hkx] at h1 h2
  have hS : S ≤ 0 := by
    refine Classical.byContradiction fun hS => ?_
    have : (g.nn + 1) * 1 ≤ (g.nn + 1) * S := Int.mul_le_mul_of_nonneg_left (by omega) (by unfold Gr.nn; omega)
    unfold Gr.nn at *
    omega
  cases hs : g.short with
  | true => rfl
  | false =>
    simp only [Gr.short, List.any_eq_false, List.mem_range, decide_eq_true_eq] at hs
    have := fwM_wk h (fun i hi => by have := hs i hi; omega) g.lat.length (Nat.le_refl _) h1 hkn
    have := hs x (h1.bd h).1
    omega

/-- **The rounds end in silence just where no cycle is too short.** -/
theorem run_short {g : Gr} (h : g.OK) : (g.run.last = -1 ∧ g.short = false ∧ Quiet g g.run) ∨ ∃ v : Nat, g.run.last = (v : Int) ∧ v < g.lat.length ∧ g.short = true ∧ (∀ k, OnWay g g.run (g.back g.run k v)) ∧ Cyc g g.run (g.back g.run (g.lat.length + 1) v) := by
  rcases run_end h with ⟨h1, h2⟩ | ⟨st, I, v, hv, hl, hst⟩
  · exact .inl ⟨h1, quiet_long h h2, h2⟩
  · obtain ⟨h3, h4⟩ := cycle_of h I hv hst
    exact .inr ⟨v, hl, hv, cyc_short h h4, h3, h4⟩

end Go.Proofs.Ytglokdfdogmmhaa

/- The rounds, one after the other; the cycle that is handed back. No program in sight. -/
namespace Go.Proofs.Ytglokdfdogmmhaa
set_option linter.unusedVariables false
set_option linter.unusedSimpArgs false

/-- After k rounds. -/
def Gr.stt (g : Gr) : Nat → BF
  | 0 => g.start
  | k + 1 => pass g (g.stt k)
def Gr.loud (g : Gr) (k : Nat) : Prop := ∀ j, 0 < j → j ≤ k → 0 ≤ (g.stt j).last
theorem run_stt {g : Gr} : ∀ (k : Nat), k ≤ g.lat.length + 1 → g.loud k → g.run = rounds g (g.lat.length + 1 - k) (g.stt k)
  | 0, _, _ => rfl
  | k + 1, hk, hl => by
    rw [run_stt k (by omega) fun j h1 h2 => hl j h1 (by omega)]
    obtain ⟨d, hd⟩ : ∃ d, g.lat.length + 1 - k = d + 1 := ⟨g.lat.length - k, by omega⟩
    rw [hd, show g.lat.length + 1 - (k + 1) = d by omega]
    show (if (pass g (g.stt k)).last < 0 then pass g (g.stt k) else rounds g d (pass g (g.stt k))) = _
    have := hl (k + 1) (by omega) (Nat.le_refl _)
    have e : g.stt (k + 1) = pass g (g.stt k) := rfl
    rw [e] at this ⊢
    rw [if_neg (by omega)]
theorem run_full {g : Gr} (hl : g.loud (g.lat.length + 1)) : g.run = g.stt (g.lat.length + 1) := by
  rw [run_stt _ (Nat.le_refl _) hl]
  simp [rounds]
theorem run_quiet {g : Gr} {k : Nat} (hk : k ≤ g.lat.length) (hl : g.loud k) (hq : (g.stt (k + 1)).last < 0) : g.run = g.stt (k + 1) := by
  rw [run_stt k (by omega) hl]
  obtain ⟨d, hd⟩ : ∃ d, g.lat.length + 1 - k = d + 1 := ⟨g.lat.length - k, by omega⟩
  rw [hd]
  show (if (pass g (g.stt k)).last < 0 then pass g (g.stt k) else rounds g d (pass g (g.stt k))) = _
  exact if_pos hq
theorem inv_stt {g : Gr} (h : g.OK) : ∀ k, ∃ st, Inv g (k + 1) 0 { g.stt k with last := -1 } st
  | 0 => ⟨_, inv_start⟩
  | k + 1 => by
    obtain ⟨st, I⟩ := inv_stt h k
    obtain ⟨st', I'⟩ := inv_passTo h (by omega) I g.es.length (Nat.le_refl _)
    exact ⟨st', inv_next (by omega) I'⟩
theorem passTo_facts {g : Gr} (h : g.OK) {k i : Nat} (hk : k ≤ g.lat.length) (hi : i ≤ g.es.length) : (passTo g (g.stt k) i).far.length = g.lat.length ∧ (passTo g (g.stt k) i).by_.length = g.lat.length ∧
    (∀ v, -1152921504606846976 ≤ (passTo g (g.stt k) i).far.getD v 0 ∧ (passTo g (g.stt k) i).far.getD v 0 ≤ 0) ∧ -1 ≤ (passTo g (g.stt k) i).last := by
  obtain ⟨st, I⟩ := inv_stt h k
  obtain ⟨st', I'⟩ := inv_passTo h (by omega) I i hi
  refine ⟨I'.lenf, I'.lenb, fun v => ⟨?_, I'.top v⟩, ?_⟩
  · have h1 := I'.low v
    have h2 : (k + 1 - 1) * g.es.length + i ≤ 4097 * 16384 := by
      have a : (k + 1 - 1) * g.es.length ≤ 4096 * 16384 := Nat.mul_le_mul (by have := h.n; omega) h.m
      have := h.m
      omega
    have h3 : BF.F (passTo g (g.stt k) i) v = (passTo g (g.stt k) i).far.getD v 0 := rfl
    omega
  · rcases I'.last with ⟨h1, _⟩ | ⟨v, _, h1, _⟩ <;> omega
theorem stt_facts {g : Gr} (h : g.OK) {k : Nat} : (g.stt k).far.length = g.lat.length ∧ (g.stt k).by_.length = g.lat.length := by
  obtain ⟨st, I⟩ := inv_stt h k
  exact ⟨I.lenf, I.lenb⟩
theorem passTo_step {g : Gr} {s : BF} {i : Nat} {e : Edg} (he : g.es.getD i default = e) : passTo g s (i + 1) = if (passTo g s i).far.getD e.f.toNat 0 + ((g.lat.length : Int) + 1) * (e.d - g.lat.getD e.f.toNat 0) - 1 < (passTo g s i).far.getD e.t.toNat 0
    then ⟨(passTo g s i).far.set e.t.toNat ((passTo g s i).far.getD e.f.toNat 0 + ((g.lat.length : Int) + 1) * (e.d - g.lat.getD e.f.toNat 0) - 1), (passTo g s i).by_.set e.t.toNat i, e.t⟩ else passTo g s i := by
  rw [passTo_succ]
  unfold relax
  simp only [he, Gr.W, Gr.wt, Gr.nn, BF.F, Int.add_sub_assoc]

def Gr.top (g : Gr) : Nat := g.run.last.toNat
/-- Where the way back has come to. -/
def Gr.knot (g : Gr) : Nat := g.back g.run (g.lat.length + 1) g.top
def Gr.per (g : Gr) : Nat := (((List.range g.lat.length).find? fun k => Nat.beq (g.back g.run (k + 1) g.knot) g.knot).getD 0) + 1
abbrev Gr.looped (g : Gr) : Bool := decide (g.formed = 0) && g.short
def Gr.cyc (g : Gr) : List Int := if g.looped then (((List.range g.per).map fun i => g.run.B (g.back g.run i g.knot)).reverse) else []
theorem per_spec {g : Gr} (c : Cyc g g.run g.knot) : 0 < g.per ∧ g.per ≤ g.lat.length ∧ g.back g.run g.per g.knot = g.knot ∧ ∀ k, 0 < k → k < g.per → g.back g.run k g.knot ≠ g.knot := by
  obtain ⟨p, hp0, hpn, hp⟩ := c.per
  unfold Gr.per
  cases hf : (List.range g.lat.length).find? fun k => Nat.beq (g.back g.run (k + 1) g.knot) g.knot with
  | none =>
    rw [List.find?_eq_none] at hf
    have := hf (p - 1) (by simp; omega)
    rw [show p - 1 + 1 = p by omega, hp] at this
    simp at this
  | some q =>
    obtain ⟨h1, as, bs, h2, h3⟩ := List.find?_eq_some_iff_append.1 hf
    have hq : q ∈ List.range g.lat.length := by rw [h2]; simp
    refine ⟨by simp, by simp at hq; simp; omega, by simpa using Nat.eq_of_beq_eq_true h1, fun k hk0 hkq he => ?_⟩
    simp only [Option.getD_some] at hkq
    have hla : as.length = q := by
      have := congrArg (fun l => l[as.length]?) h2
      simp at this
      have h4 : as.length < g.lat.length := by
        have := congrArg List.length h2
        simp at this; omega
      rw [List.getElem?_range h4] at this
      simpa using this
    have hmem : k - 1 ∈ as := by
      have h5 : k - 1 < as.length := by omega
      have h6 := congrArg (fun l => l[k - 1]?) h2
      simp only [List.getElem?_append_left h5] at h6
      rw [List.getElem?_range (by simp at hq; omega)] at h6
      exact List.mem_of_getElem? h6.symm
    have := h3 (k - 1) hmem
    rw [show k - 1 + 1 = k by omega, he] at this
    simp at this

end Go.Proofs.Ytglokdfdogmmhaa

/- What is reached in a graph: by a search in depth, and by rounds over the edges. No program in sight. -/
namespace Go.Proofs.Ytglokdfdogmmhaa
set_option linter.unusedVariables false
set_option linter.unusedSimpArgs false

abbrev seen (l : List Bool) (v : Nat) : Bool := l.getD v false
theorem seen_set {l : List Bool} {v u : Nat} (h : v < l.length) : seen (l.set v true) u = if v = u then true else seen l u := by
  simp only [seen, List.getD_eq_getElem?_getD, List.getElem?_set]
  by_cases e : v = u
  · subst e; simp [h]
  · simp [e]
theorem seen_lt {l : List Bool} {v : Nat} (h : seen l v = true) : v < l.length := by
  by_cases hv : v < l.length
  · exact hv
  · simp [seen, List.getD_eq_getElem?_getD, List.getElem?_eq_none (by omega : l.length ≤ v)] at h
def unseen : List Bool → Nat
  | [] => 0
  | b :: r => (if b = true then 0 else 1) + unseen r
theorem unseen_none : ∀ (l : List Bool), unseen l = 0 → ∀ v, v < l.length → seen l v = true
  | [], _, v, hv => by simp at hv
  | b :: r, h, v, hv => by
    simp only [unseen] at h
    by_cases hb : b = true
    · rw [if_pos hb] at h
      cases v with
      | zero => simpa [seen] using hb
      | succ v =>
        have := unseen_none r (by omega) v (by simpa using hv)
        simpa [seen] using this
    · rw [if_neg hb] at h; omega
theorem unseen_set : ∀ (l : List Bool) (v : Nat), v < l.length → seen l v = false → unseen (l.set v true) + 1 = unseen l
  | [], v, hv, _ => by simp at hv
  | b :: r, 0, _, h => by
    have hb : b = false := by simpa [seen] using h
    subst hb
    simp [unseen]; omega
  | b :: r, v + 1, hv, h => by
    have := unseen_set r v (by simpa using hv) (by simpa [seen] using h)
    simp only [List.set_cons_succ, unseen]
    omega
theorem unseen_mono : ∀ (l m : List Bool), l.length = m.length → (∀ v, seen l v = true → seen m v = true) → unseen m ≤ unseen l
  | [], [], _, _ => Nat.le_refl _
  | [], _ :: _, h, _ => by simp at h
  | _ :: _, [], h, _ => by simp at h
  | a :: l, b :: m, h, hm => by
    have ih := unseen_mono l m (by simpa using h) fun v hv => by simpa [seen] using hm (v + 1) (by simpa [seen] using hv)
    have h0 : a = true → b = true := fun e => by simpa [seen] using hm 0 (by simpa [seen] using e)
    simp only [unseen]
    cases a <;> cases b <;> simp_all <;> omega
theorem unseen_replicate (n : Nat) : unseen (List.replicate n false) = n := by
  induction n with
  | zero => rfl
  | succ n ih => rw [List.replicate_succ, unseen, ih]; simp; omega
theorem seen_ext {l m : List Bool} (h : l.length = m.length) (he : ∀ v, seen l v = seen m v) : l = m := by
  apply List.ext_getElem h
  intro i h1 h2
  have := he i
  simpa [seen, List.getD_eq_getElem?_getD, h1, h2] using this

/-! The ways of a graph. -/
inductive Gr.Way (g : Gr) (v : Nat) : Nat → Prop
  | refl : Gr.Way g v v
  | step {e : Edg} (he : e ∈ g.es) (h : Gr.Way g v e.f.toNat) : Gr.Way g v e.t.toNat
theorem Gr.Way.trans {g : Gr} {a b c : Nat} (h : g.Way a b) (k : g.Way b c) : g.Way a c := by
  induction k with
  | refl => exact h
  | step he _ ih => exact .step he ih
theorem Gr.Way.lt {g : Gr} (ho : g.OK) {a b : Nat} (h : g.Way a b) (ha : a < g.lat.length) : b < g.lat.length := by
  cases h with
  | refl => exact ha
  | step he _ =>
    obtain ⟨j, hj, rfl⟩ := List.mem_iff_getElem.1 he
    have := (Gr.edge ho hj).2.2.1
    rwa [getD_lt _ _ hj] at this
def Gr.Closed (g : Gr) (l : List Bool) : Prop := ∀ e ∈ g.es, seen l e.f.toNat = true → seen l e.t.toNat = true
theorem Gr.Closed.way {g : Gr} {l : List Bool} (h : g.Closed l) {a b : Nat} (w : g.Way a b) (ha : seen l a = true) : seen l b = true := by
  induction w with
  | refl => exact ha
  | step he _ ih => exact h _ he ih

/-! In depth. -/
def Gr.nextTo (g : Gr) : Nat → List (List Int)
  | 0 => List.replicate g.lat.length []
  | i + 1 => (g.nextTo i).set (g.es.getD i default).f.toNat ((g.nextTo i).getD (g.es.getD i default).f.toNat [] ++ [(g.es.getD i default).t])
abbrev Gr.next (g : Gr) : List (List Int) := g.nextTo g.es.length
theorem nextTo_len (g : Gr) : ∀ i, (g.nextTo i).length = g.lat.length
  | 0 => by simp [Gr.nextTo]
  | i + 1 => by simp [Gr.nextTo, nextTo_len g i]
theorem nextTo_row {g : Gr} : ∀ i v, ((g.nextTo i).getD v []).length ≤ i
  | 0, v => by
    have : (g.nextTo 0).getD v [] = [] := by simp [Gr.nextTo, List.getD_eq_getElem?_getD, List.getElem?_replicate]; split <;> rfl
    rw [this]; exact Nat.le_refl _
  | i + 1, v => by
    have a := nextTo_row (g := g) i v
    show (((g.nextTo i).set (g.es.getD i default).f.toNat ((g.nextTo i).getD (g.es.getD i default).f.toNat [] ++ [(g.es.getD i default).t])).getD v []).length ≤ _
    by_cases hf : (g.es.getD i default).f.toNat < (g.nextTo i).length
    · rw [getDL_set hf]
      split
      · have b := nextTo_row (g := g) i (g.es.getD i default).f.toNat
        rw [List.length_append, List.length_singleton]; omega
      · omega
    · rw [List.set_eq_of_length_le (by omega)]; omega
theorem mem_nextTo {g : Gr} (h : g.OK) : ∀ i, i ≤ g.es.length → ∀ v t, t ∈ (g.nextTo i).getD v [] ↔ ∃ j, j < i ∧ (g.es.getD j default).f.toNat = v ∧ (g.es.getD j default).t = t
  | 0, _, v, t => by
    have : (g.nextTo 0).getD v [] = [] := by simp [Gr.nextTo, List.getD_eq_getElem?_getD, List.getElem?_replicate]; split <;> rfl
    rw [this]
    constructor
    · intro h; cases h
    · rintro ⟨j, hj, _⟩; omega
  | i + 1, hi, v, t => by
    have ih := mem_nextTo h i (by omega)
    have hf : (g.es.getD i default).f.toNat < (g.nextTo i).length := by rw [nextTo_len]; exact (Gr.edge h (by omega)).2.1
    show t ∈ ((g.nextTo i).set (g.es.getD i default).f.toNat ((g.nextTo i).getD (g.es.getD i default).f.toNat [] ++ [(g.es.getD i default).t])).getD v [] ↔ _
    rw [getDL_set hf]
    by_cases hv : (g.es.getD i default).f.toNat = v
    · rw [if_pos hv, List.mem_append, hv, ih v t, List.mem_singleton]
      constructor
      · rintro (⟨j, h1, h2, h3⟩ | h1)
        · exact ⟨j, by omega, h2, h3⟩
        · exact ⟨i, by omega, hv, h1.symm⟩
      · rintro ⟨j, h1, h2, h3⟩
        by_cases hj : j = i
        · subst hj; exact .inr h3.symm
        · exact .inl ⟨j, by omega, h2, h3⟩
    · rw [if_neg hv, ih v t]
      constructor
      · rintro ⟨j, h1, h2, h3⟩; exact ⟨j, by omega, h2, h3⟩
      · rintro ⟨j, h1, h2, h3⟩
        exact ⟨j, by
          by_cases hj : j = i
          · subst hj; exact absurd h2 hv
          · omega, h2, h3⟩
theorem mem_next {g : Gr} (h : g.OK) {v : Nat} {t : Int} : t ∈ g.next.getD v [] ↔ ∃ e ∈ g.es, e.f.toNat = v ∧ e.t = t := by
  rw [mem_nextTo h _ (Nat.le_refl _)]
  constructor
  · rintro ⟨j, h1, h2, h3⟩; exact ⟨_, (Gr.edge h h1).1, h2, h3⟩
  · rintro ⟨e, h1, h2, h3⟩
    obtain ⟨j, hj, rfl⟩ := List.mem_iff_getElem.1 h1
    exact ⟨j, hj, by rw [getD_lt _ _ hj]; exact h2, by rw [getD_lt _ _ hj]; exact h3⟩

abbrev DS := List Bool × List Int
def dfs (rows : List (List Int)) : Nat → DS → Nat → DS
  | 0, s, _ => s
  | k + 1, s, v => if seen s.1 v = true then s else (rows.getD v []).foldl (fun s t => dfs rows k s t.toNat) (s.1.set v true, s.2 ++ [(v : Int)])
def dfsTo (rows : List (List Int)) (k : Nat) (s : DS) (l : List Int) (i : Nat) : DS := (l.take i).foldl (fun s t => dfs rows k s t.toNat) s
theorem dfsTo_succ (rows : List (List Int)) (k : Nat) (s : DS) {l : List Int} {i : Nat} (h : i < l.length) : dfsTo rows k s l (i + 1) = dfs rows k (dfsTo rows k s l i) (l.getD i 0).toNat := by
  unfold dfsTo
  rw [List.take_add_one, List.getElem?_eq_getElem h, List.foldl_append, getD_lt _ _ h]
  rfl
/-- What a part of the search does: F, from where the new ones are reached. -/
structure DR (rows : List (List Int)) (F : Nat → Prop) (s s' : DS) : Prop where
  len : s'.1.length = s.1.length
  mono : ∀ u, seen s.1 u = true → seen s'.1 u = true
  closed : ∀ u, seen s'.1 u = true → seen s.1 u = false → ∀ t ∈ rows.getD u [], seen s'.1 t.toNat = true
  way : ∀ u, seen s'.1 u = true → seen s.1 u = false → F u
  nodes : ∃ L : List Int, s'.2 = s.2 ++ L ∧ L.Nodup ∧ ∀ x, x ∈ L ↔ ∃ u : Nat, x = (u : Int) ∧ seen s'.1 u = true ∧ seen s.1 u = false
theorem DR.refl {rows : List (List Int)} {F : Nat → Prop} (s : DS) : DR rows F s s :=
  ⟨rfl, fun _ h => h, fun u h k => (by rw [h] at k; cases k), fun u h k => (by rw [h] at k; cases k), ⟨[], by simp, List.nodup_nil, fun x => ⟨fun h => (by cases h), fun ⟨u, _, h, k⟩ => (by rw [h] at k; cases k)⟩⟩⟩
theorem DR.trans {rows : List (List Int)} {F : Nat → Prop} {a b c : DS} (h : DR rows F a b) (k : DR rows F b c) : DR rows F a c := by
  have hb : ∀ u, seen b.1 u = true ∨ seen b.1 u = false := fun u => by cases seen b.1 u <;> simp
  refine ⟨k.len.trans h.len, fun u hu => k.mono u (h.mono u hu), fun u hu hn t ht => ?_, fun u hu hn => ?_, ?_⟩
  · rcases hb u with h1 | h1
    · exact k.mono _ (h.closed u h1 hn t ht)
    · exact k.closed u hu h1 t ht
  · rcases hb u with h1 | h1
    · exact h.way u h1 hn
    · exact k.way u hu h1
  · obtain ⟨L, e1, n1, m1⟩ := h.nodes
    obtain ⟨K, e2, n2, m2⟩ := k.nodes
    refine ⟨L ++ K, by rw [e2, e1, List.append_assoc], List.nodup_append.2 ⟨n1, n2, fun x hx y hy e => ?_⟩, fun x => ?_⟩
    · subst e
      obtain ⟨u, rfl, h1, _⟩ := (m1 x).1 hx
      obtain ⟨v, hv, _, h2⟩ := (m2 _).1 hy
      have : u = v := by omega
      subst this
      rw [h1] at h2; cases h2
    · rw [List.mem_append, m1, m2]
      constructor
      · rintro (⟨u, rfl, h1, h2⟩ | ⟨u, rfl, h1, h2⟩)
        · exact ⟨u, rfl, k.mono u h1, h2⟩
        · refine ⟨u, rfl, h1, ?_⟩
          cases hx : seen a.1 u with
          | false => rfl
          | true => rw [h.mono u hx] at h2; cases h2
      · rintro ⟨u, rfl, h1, h2⟩
        rcases hb u with h3 | h3
        · exact .inl ⟨u, rfl, h3, h2⟩
        · exact .inr ⟨u, rfl, h1, h3⟩
theorem DR.weaken {rows : List (List Int)} {F G : Nat → Prop} {a b : DS} (h : DR rows F a b) (hf : ∀ u, F u → G u) : DR rows G a b := ⟨h.len, h.mono, h.closed, fun u x y => hf u (h.way u x y), h.nodes⟩
theorem DR.unseen {rows : List (List Int)} {F : Nat → Prop} {a b : DS} (h : DR rows F a b) : unseen b.1 ≤ unseen a.1 := unseen_mono _ _ h.len.symm h.mono
theorem dfs_spec {rows : List (List Int)} {n : Nat} (hr : ∀ v, ∀ t ∈ rows.getD v [], 0 ≤ t ∧ t.toNat < n) {F : Nat → Nat → Prop} (hF : ∀ v, F v v) (hS : ∀ v, ∀ t ∈ rows.getD v [], ∀ u, F t.toNat u → F v u) :
    ∀ (k : Nat) (s : DS) (v : Nat), s.1.length = n → v < n → unseen s.1 ≤ k → DR rows (F v) s (dfs rows k s v) ∧ seen (dfs rows k s v).1 v = true
  | 0, s, v, hl, hv, hk => ⟨DR.refl s, show seen s.1 v = true from unseen_none s.1 (by omega) v (by omega)⟩
  | k + 1, s, v, hl, hv, hk => by
    by_cases hs : seen s.1 v = true
    · have e : dfs rows (k + 1) s v = s := if_pos hs
      rw [e]; exact ⟨DR.refl s, hs⟩
    · have e : dfs rows (k + 1) s v = (rows.getD v []).foldl (fun s t => dfs rows k s t.toNat) (s.1.set v true, s.2 ++ [(v : Int)]) := if_neg hs
      have hsf : seen s.1 v = false := by simpa using hs
      have hu := unseen_set s.1 v (by omega) hsf
      rw [e]
      obtain ⟨s1, hs1⟩ : ∃ s1 : DS, (s.1.set v true, s.2 ++ [(v : Int)]) = s1 := ⟨_, rfl⟩
      have h1l : s1.1.length = n := by rw [← hs1]; simpa using hl
      have h1u : unseen s1.1 ≤ k := by rw [← hs1]; show unseen (s.1.set v true) ≤ k; omega
      have h1s : ∀ u, seen s1.1 u = if v = u then true else seen s.1 u := fun u => by rw [← hs1]; exact seen_set (by omega)
      rw [hs1]
      have key : ∀ (l : List Int) (a : DS), (∀ t ∈ l, t ∈ rows.getD v []) → a.1.length = n → unseen a.1 ≤ k →
          DR rows (F v) a (l.foldl (fun s t => dfs rows k s t.toNat) a) ∧ ∀ t ∈ l, seen (l.foldl (fun s t => dfs rows k s t.toNat) a).1 t.toNat = true := by
        intro l
        induction l with
        | nil => intro a _ _ _; exact ⟨DR.refl a, fun t ht => by cases ht⟩
        | cons t l ih =>
          intro a ht ha hka
          have htm := ht t (by simp)
          obtain ⟨d1, d2⟩ := dfs_spec hr hF hS k a t.toNat ha (hr v t htm).2 hka
          obtain ⟨d3, d4⟩ := ih (dfs rows k a t.toNat) (fun t h => ht t (by simp [h])) (by rw [d1.len, ha]) (by have := d1.unseen; omega)
          refine ⟨(d1.weaken (hS v t htm)).trans d3, fun x hx => ?_⟩
          rcases List.mem_cons.1 hx with rfl | hx
          · exact d3.mono _ d2
          · exact d4 x hx
      obtain ⟨d, dt⟩ := key (rows.getD v []) s1 (fun t h => h) h1l h1u
      generalize (rows.getD v []).foldl (fun s t => dfs rows k s t.toNat) s1 = s' at d dt ⊢
      have hv' : seen s'.1 v = true := d.mono v (by rw [h1s, if_pos rfl])
      refine ⟨⟨by rw [d.len, h1l, hl], fun u hu => d.mono u (by rw [h1s]; split <;> first | rfl | exact hu), fun u hu hn t ht => ?_, fun u hu hn => ?_, ?_⟩, hv'⟩
      · by_cases huv : v = u
        · subst huv; exact dt t ht
        · exact d.closed u hu (by rw [h1s, if_neg huv]; exact hn) t ht
      · by_cases huv : v = u
        · subst huv; exact hF v
        · exact d.way u hu (by rw [h1s, if_neg huv]; exact hn)
      · obtain ⟨L, e1, n1, m1⟩ := d.nodes
        refine ⟨(v : Int) :: L, by rw [e1, ← hs1]; simp, List.nodup_cons.2 ⟨fun hm => ?_, n1⟩, fun x => ?_⟩
        · obtain ⟨u, hu, _, h2⟩ := (m1 _).1 hm
          have : v = u := by omega
          subst this
          rw [h1s, if_pos rfl] at h2; cases h2
        · rw [List.mem_cons, m1]
          constructor
          · rintro (rfl | ⟨u, rfl, h1, h2⟩)
            · exact ⟨v, rfl, hv', hsf⟩
            · refine ⟨u, rfl, h1, ?_⟩
              rw [h1s] at h2
              split at h2
              · cases h2
              · exact h2
          · rintro ⟨u, rfl, h1, h2⟩
            by_cases huv : v = u
            · subst huv; exact .inl rfl
            · exact .inr ⟨u, rfl, h1, by rw [h1s, if_neg huv]; exact h2⟩
theorem dfs_more {rows : List (List Int)} {n : Nat} (hr : ∀ v, ∀ t ∈ rows.getD v [], 0 ≤ t ∧ t.toNat < n) {k : Nat} {s : DS} {v : Nat} (hl : s.1.length = n) (hv : v < n) (hk : unseen s.1 ≤ k) : (dfs rows k s v).1.length = n ∧ unseen (dfs rows k s v).1 ≤ unseen s.1 := by
  have h := (dfs_spec hr (F := fun _ _ => True) (fun _ => trivial) (fun _ _ _ _ _ => trivial) k s v hl hv hk).1
  exact ⟨by rw [h.len, hl], h.unseen⟩

theorem dfs_count {rows : List (List Int)} {n : Nat} (hr : ∀ v, ∀ t ∈ rows.getD v [], 0 ≤ t ∧ t.toNat < n) : ∀ (k : Nat) (s : DS) (v : Nat), s.1.length = n → v < n → unseen s.1 ≤ k → (dfs rows k s v).2.length + unseen (dfs rows k s v).1 = s.2.length + unseen s.1
  | 0, s, v, hl, hv, hk => rfl
  | k + 1, s, v, hl, hv, hk => by
    by_cases hs : seen s.1 v = true
    · have e : dfs rows (k + 1) s v = s := if_pos hs
      rw [e]
    · have e : dfs rows (k + 1) s v = (rows.getD v []).foldl (fun s t => dfs rows k s t.toNat) (s.1.set v true, s.2 ++ [(v : Int)]) := if_neg hs
      have hu := unseen_set s.1 v (by omega) (by simpa using hs)
      rw [e]
      have key : ∀ (l : List Int) (a : DS), (∀ t ∈ l, t ∈ rows.getD v []) → a.1.length = n → unseen a.1 ≤ k → (l.foldl (fun s t => dfs rows k s t.toNat) a).2.length + unseen (l.foldl (fun s t => dfs rows k s t.toNat) a).1 = a.2.length + unseen a.1 := by
        intro l
        induction l with
        | nil => intro a _ _ _; rfl
        | cons t l ih =>
          intro a ht ha hka
          have htm := hr v t (ht t (by simp))
          obtain ⟨h1, h2⟩ := dfs_more hr (v := t.toNat) ha htm.2 hka
          rw [List.foldl_cons, ih (dfs rows k a t.toNat) (fun t h => ht t (by simp [h])) h1 (by omega)]
          exact dfs_count hr k a t.toNat ha htm.2 hka
      rw [key _ _ (fun t h => h) (by simpa using hl) (by show unseen (s.1.set v true) ≤ k; omega)]
      show (s.2 ++ [(v : Int)]).length + unseen (s.1.set v true) = _
      rw [List.length_append, List.length_singleton]; omega
theorem dfsTo_more {rows : List (List Int)} {n : Nat} (hr : ∀ v, ∀ t ∈ rows.getD v [], 0 ≤ t ∧ t.toNat < n) {k v : Nat} {s : DS} (hl : s.1.length = n) (hk : unseen s.1 ≤ k) : ∀ i, i ≤ (rows.getD v []).length → (dfsTo rows k s (rows.getD v []) i).1.length = n ∧ unseen (dfsTo rows k s (rows.getD v []) i).1 ≤ k ∧
    (dfsTo rows k s (rows.getD v []) i).2.length + unseen (dfsTo rows k s (rows.getD v []) i).1 = s.2.length + unseen s.1
  | 0, _ => ⟨hl, hk, rfl⟩
  | i + 1, hi => by
    obtain ⟨h1, h2, h3⟩ := dfsTo_more hr (v := v) hl hk i (by omega)
    have ht : (rows.getD v []).getD i 0 ∈ rows.getD v [] := by rw [getD_lt _ _ (by omega : i < (rows.getD v []).length)]; exact List.getElem_mem _
    have hb := hr v _ ht
    rw [dfsTo_succ _ _ _ (by omega)]
    obtain ⟨a, b⟩ := dfs_more hr (v := ((rows.getD v []).getD i 0).toNat) h1 hb.2 h2
    exact ⟨a, by omega, by rw [dfs_count hr k _ _ h1 hb.2 h2]; exact h3⟩
theorem dfs_new {rows : List (List Int)} {k v : Nat} {s : DS} (hs : seen s.1 v = false) : dfs rows (k + 1) s v = dfsTo rows k (s.1.set v true, s.2 ++ [(v : Int)]) (rows.getD v []) (rows.getD v []).length := by
  unfold dfsTo
  rw [List.take_length]
  exact if_neg (by rw [hs]; decide)
theorem dfs_old {rows : List (List Int)} {v : Nat} {s : DS} (hs : seen s.1 v = true) : ∀ k, dfs rows k s v = s
  | 0 => rfl
  | _ + 1 => if_pos hs

/-- What is reached from a node. -/
def Gr.reachS (g : Gr) (v : Nat) : DS := dfs g.next g.lat.length (List.replicate g.lat.length false, []) v
theorem next_ok {g : Gr} (h : g.OK) : ∀ v, ∀ t ∈ g.next.getD v [], 0 ≤ t ∧ t.toNat < g.lat.length := fun v t ht => by
  obtain ⟨e, he, _, rfl⟩ := (mem_next h).1 ht
  obtain ⟨j, hj, rfl⟩ := List.mem_iff_getElem.1 he
  have := Gr.edge h hj
  rw [getD_lt _ _ hj] at this
  exact ⟨this.2.2.2.2, this.2.2.1⟩
theorem reachS_spec {g : Gr} (h : g.OK) {v : Nat} (hv : v < g.lat.length) : (g.reachS v).1.length = g.lat.length ∧ (∀ u, seen (g.reachS v).1 u = true ↔ g.Way v u) ∧ (g.reachS v).2.Nodup ∧ ∀ x, x ∈ (g.reachS v).2 ↔ ∃ u : Nat, x = (u : Int) ∧ g.Way v u := by
  have hF : ∀ u, seen (List.replicate g.lat.length false) u = false := fun u => by simp [seen, List.getD_eq_getElem?_getD, List.getElem?_replicate]; split <;> rfl
  obtain ⟨d, dv⟩ := dfs_spec (next_ok h) (F := g.Way) (fun v => .refl) (fun a t ht u hu => by
    obtain ⟨e, he, hf, rfl⟩ := (mem_next h).1 ht
    exact (Gr.Way.step he (hf ▸ .refl)).trans hu) g.lat.length (List.replicate g.lat.length false, []) v (by simp) hv (by rw [unseen_replicate]; exact Nat.le_refl _)
  have hs : ∀ u, seen (g.reachS v).1 u = true ↔ g.Way v u := fun u => by
    constructor
    · intro hu; exact d.way u hu (hF u)
    · intro w
      refine Gr.Closed.way (l := (g.reachS v).1) (fun e he hf => ?_) w dv
      exact d.closed e.f.toNat hf (hF _) e.t ((mem_next h).2 ⟨e, he, rfl, rfl⟩)
  obtain ⟨L, e1, n1, m1⟩ := d.nodes
  have e2 : (g.reachS v).2 = L := by
    show (dfs g.next g.lat.length (List.replicate g.lat.length false, []) v).2 = L
    rw [e1]; simp
  refine ⟨by rw [show (g.reachS v).1.length = _ from d.len]; simp, hs, by rw [e2]; exact n1, fun x => ?_⟩
  rw [e2, m1]
  constructor
  · rintro ⟨u, rfl, h1, _⟩; exact ⟨u, rfl, (hs u).1 h1⟩
  · rintro ⟨u, rfl, h1⟩; exact ⟨u, rfl, (hs u).2 h1, hF u⟩

/-! By rounds. -/
def Gr.markE (g : Gr) (l : List Bool) (i : Nat) : List Bool := if seen l (g.es.getD i default).f.toNat = true then l.set (g.es.getD i default).t.toNat true else l
def Gr.markTo (g : Gr) (l : List Bool) : Nat → List Bool
  | 0 => l
  | i + 1 => g.markE (g.markTo l i) i
def Gr.markR (g : Gr) (v : Nat) : Nat → List Bool
  | 0 => (List.replicate g.lat.length false).set v true
  | k + 1 => g.markTo (g.markR v k) g.es.length
theorem markE_len (g : Gr) (l : List Bool) (i : Nat) : (g.markE l i).length = l.length := by unfold Gr.markE; split <;> simp
theorem markTo_len (g : Gr) (l : List Bool) : ∀ i, (g.markTo l i).length = l.length
  | 0 => rfl
  | i + 1 => (markE_len g _ i).trans (markTo_len g l i)
theorem markR_len (g : Gr) (v : Nat) : ∀ k, (g.markR v k).length = g.lat.length
  | 0 => by simp [Gr.markR]
  | k + 1 => (markTo_len g _ _).trans (markR_len g v k)
theorem markE_seen {g : Gr} (h : g.OK) {l : List Bool} (hl : l.length = g.lat.length) {i : Nat} (hi : i < g.es.length) (u : Nat) : seen (g.markE l i) u = true ↔ seen l u = true ∨ (seen l (g.es.getD i default).f.toNat = true ∧ (g.es.getD i default).t.toNat = u) := by
  have ht : (g.es.getD i default).t.toNat < l.length := by rw [hl]; exact (Gr.edge h hi).2.2.1
  unfold Gr.markE
  by_cases hf : seen l (g.es.getD i default).f.toNat = true
  · rw [if_pos hf, seen_set ht]
    by_cases e : (g.es.getD i default).t.toNat = u
    · rw [if_pos e]; exact ⟨fun _ => .inr ⟨hf, e⟩, fun _ => rfl⟩
    · rw [if_neg e]; exact ⟨.inl, fun x => x.elim id fun y => absurd y.2 e⟩
  · rw [if_neg hf]; exact ⟨.inl, fun x => x.elim id fun y => absurd y.1 hf⟩
theorem markTo_mono {g : Gr} (h : g.OK) {l : List Bool} (hl : l.length = g.lat.length) {u : Nat} (hu : seen l u = true) : ∀ i, i ≤ g.es.length → seen (g.markTo l i) u = true
  | 0, _ => hu
  | i + 1, hi => (markE_seen h (by rw [markTo_len, hl]) (by omega) u).2 (.inl (markTo_mono h hl hu i (by omega)))
theorem markTo_edge {g : Gr} (h : g.OK) {l : List Bool} (hl : l.length = g.lat.length) {j : Nat} (hf : seen l (g.es.getD j default).f.toNat = true) : ∀ i, i ≤ g.es.length → j < i → seen (g.markTo l i) (g.es.getD j default).t.toNat = true
  | 0, _, hj => by omega
  | i + 1, hi, hj => by
    by_cases e : j = i
    · subst e
      exact (markE_seen h (by rw [markTo_len, hl]) (by omega) _).2 (.inr ⟨markTo_mono h hl hf j (by omega), rfl⟩)
    · exact (markE_seen h (by rw [markTo_len, hl]) (by omega) _).2 (.inl (markTo_edge h hl hf i (by omega) (by omega)))
theorem markTo_way {g : Gr} (h : g.OK) {l : List Bool} (hl : l.length = g.lat.length) {v : Nat} (hw : ∀ u, seen l u = true → g.Way v u) : ∀ i, i ≤ g.es.length → ∀ u, seen (g.markTo l i) u = true → g.Way v u
  | 0, _, u, hu => hw u hu
  | i + 1, hi, u, hu => by
    rcases (markE_seen h (by rw [markTo_len, hl]) (by omega) u).1 hu with h1 | ⟨h1, h2⟩
    · exact markTo_way h hl hw i (by omega) u h1
    · rw [← h2]; exact .step (Gr.edge h (by omega)).1 (markTo_way h hl hw i (by omega) _ h1)
theorem markTo_closed {g : Gr} (h : g.OK) {l : List Bool} (hl : l.length = g.lat.length) (hc : g.Closed l) : ∀ i, i ≤ g.es.length → ∀ u, seen (g.markTo l i) u = true → seen l u = true
  | 0, _, u, hu => hu
  | i + 1, hi, u, hu => by
    rcases (markE_seen h (by rw [markTo_len, hl]) (by omega) u).1 hu with h1 | ⟨h1, h2⟩
    · exact markTo_closed h hl hc i (by omega) u h1
    · rw [← h2]; exact hc _ (Gr.edge h (by omega)).1 (markTo_closed h hl hc i (by omega) _ h1)
theorem markR_spec {g : Gr} (h : g.OK) {v : Nat} (hv : v < g.lat.length) : ∀ k, seen (g.markR v k) v = true ∧ (∀ u, seen (g.markR v k) u = true → g.Way v u) ∧ (g.Closed (g.markR v k) ∨ unseen (g.markR v k) + k + 1 ≤ g.lat.length)
  | 0 => by
    have hl : v < (List.replicate g.lat.length false).length := by simpa using hv
    have hF : ∀ u, seen (List.replicate g.lat.length false) u = false := fun u => by simp [seen, List.getD_eq_getElem?_getD, List.getElem?_replicate]; split <;> rfl
    refine ⟨by show seen ((List.replicate g.lat.length false).set v true) v = true; rw [seen_set hl, if_pos rfl], fun u hu => ?_, .inr ?_⟩
    · have hu : seen ((List.replicate g.lat.length false).set v true) u = true := hu
      rw [seen_set hl] at hu
      split at hu
      · rename_i e; subst e; exact .refl
      · rw [hF] at hu; cases hu
    · have := unseen_set (List.replicate g.lat.length false) v hl (hF v)
      rw [unseen_replicate] at this
      show unseen ((List.replicate g.lat.length false).set v true) + 0 + 1 ≤ _
      omega
  | k + 1 => by
    obtain ⟨h1, h2, h3⟩ := markR_spec h hv k
    have hl := markR_len g v k
    refine ⟨markTo_mono h hl h1 _ (Nat.le_refl _), markTo_way h hl h2 _ (Nat.le_refl _), ?_⟩
    by_cases hc : g.Closed (g.markR v k)
    · left
      intro e he hf
      have hf' := markTo_closed h hl hc _ (Nat.le_refl _) _ hf
      exact markTo_mono h hl (hc e he hf') _ (Nat.le_refl _)
    · rcases h3 with h3 | h3
      · exact absurd h3 hc
      · right
        have hx : ∃ e ∈ g.es, seen (g.markR v k) e.f.toNat = true ∧ seen (g.markR v k) e.t.toNat = false := by
          refine Classical.byContradiction fun hn => hc fun e he hf => ?_
          cases ht : seen (g.markR v k) e.t.toNat with
          | true => rfl
          | false => exact absurd ⟨e, he, hf, ht⟩ hn
        obtain ⟨e, he, hf, ht⟩ := hx
        obtain ⟨j, hj, rfl⟩ := List.mem_iff_getElem.1 he
        have hg : g.es.getD j default = g.es[j] := getD_lt _ _ hj
        have hm := markTo_edge h hl (j := j) (by rw [hg]; exact hf) g.es.length (Nat.le_refl _) hj
        rw [hg] at hm
        have htl : g.es[j].t.toNat < g.lat.length := by have := (Gr.edge h hj).2.2.1; rwa [hg] at this
        have hs := unseen_set (g.markR v k) g.es[j].t.toNat (by omega) ht
        have hmn := unseen_mono ((g.markR v k).set g.es[j].t.toNat true) (g.markR v (k + 1)) (by rw [List.length_set, hl, markR_len]) fun u hu => by
          rw [seen_set (by omega)] at hu
          split at hu
          · rename_i e; subst e; exact hm
          · exact markTo_mono h hl hu _ (Nat.le_refl _)
        omega
theorem markR_end {g : Gr} (h : g.OK) {v : Nat} (hv : v < g.lat.length) (u : Nat) : seen (g.markR v g.lat.length) u = true ↔ g.Way v u := by
  obtain ⟨h1, h2, h3⟩ := markR_spec h hv g.lat.length
  rcases h3 with h3 | h3
  · exact ⟨h2 u, fun w => h3.way w h1⟩
  · omega

/-! The two lists. -/
def markL (l : List Bool) (i : Nat) : List Int := List.map (fun u : Nat => (u : Int)) ((List.range i).filter fun u => seen l u)
theorem mem_markL {l : List Bool} {i : Nat} {x : Int} : x ∈ markL l i ↔ ∃ u : Nat, x = (u : Int) ∧ u < i ∧ seen l u = true := by
  unfold markL
  simp only [List.mem_map, List.mem_filter, List.mem_range]
  constructor
  · rintro ⟨u, ⟨a, b⟩, rfl⟩; exact ⟨u, rfl, a, b⟩
  · rintro ⟨u, rfl, a, b⟩; exact ⟨u, ⟨a, b⟩, rfl⟩
theorem markL_pair (l : List Bool) (i : Nat) : (markL l i).Pairwise (· < ·) := by
  unfold markL
  rw [List.pairwise_map]
  refine (List.Pairwise.filter _ (List.pairwise_lt_range)).imp fun h => by omega
def sortL (xs : List Int) : List Int := xs.mergeSort fun x y => decide (x ≤ y)
theorem sort_mark {L : List Int} {l : List Bool} {n : Nat} (hn : L.Nodup) (hm : ∀ x, x ∈ L ↔ x ∈ markL l n) : sortL L = markL l n := by
  have hp : (sortL L).Perm L := List.mergeSort_perm _ _
  have hs : (sortL L).Pairwise (fun x y => decide (x ≤ y) = true) := List.pairwise_mergeSort (fun a b c h1 h2 => by simp only [decide_eq_true_eq] at *; omega) (fun a b => by simp only [Bool.or_eq_true, decide_eq_true_eq]; omega) _
  refine List.Perm.eq_of_pairwise (le := fun x y => decide (x ≤ y) = true) (fun a b _ _ h1 h2 => by simp only [decide_eq_true_eq] at *; omega) hs ((markL_pair l n).imp fun h => by simp only [decide_eq_true_eq]; omega) ?_
  refine hp.trans ((List.perm_ext_iff_of_nodup hn ((markL_pair l n).imp fun h e => by omega)).2 hm)
def Gr.reachL (g : Gr) (v : Nat) : List Int := markL (g.markR v g.lat.length) g.lat.length
theorem mem_reachL {g : Gr} (h : g.OK) {v : Nat} (hv : v < g.lat.length) {x : Int} : x ∈ g.reachL v ↔ ∃ u : Nat, x = (u : Int) ∧ g.Way v u := by
  unfold Gr.reachL
  rw [mem_markL]
  constructor
  · rintro ⟨u, rfl, _, h2⟩; exact ⟨u, rfl, (markR_end h hv u).1 h2⟩
  · rintro ⟨u, rfl, w⟩; exact ⟨u, rfl, w.lt h hv, (markR_end h hv u).2 w⟩
theorem reach_sorted {g : Gr} (h : g.OK) {v : Nat} (hv : v < g.lat.length) : sortL (g.reachS v).2 = g.reachL v := by
  obtain ⟨_, _, hn, hm⟩ := reachS_spec h hv
  refine sort_mark hn fun x => ?_
  rw [hm]; exact (mem_reachL h hv).symm
theorem reachS_pos {g : Gr} (h : g.OK) {v : Nat} (hv : v < g.lat.length) : 0 < (g.reachS v).2.length := by
  obtain ⟨_, _, _, hm⟩ := reachS_spec h hv
  exact List.length_pos_iff.2 fun e => by
    have := (hm v).2 ⟨v, rfl, .refl⟩
    rw [e] at this; cases this
theorem reachS_len {g : Gr} (h : g.OK) {v : Nat} (hv : v < g.lat.length) : (g.reachS v).2.length ≤ g.lat.length := by
  have h1 : (sortL (g.reachS v).2).length = (g.reachS v).2.length := by simp [sortL]
  rw [← h1, reach_sorted h hv]
  unfold Gr.reachL markL
  rw [List.length_map]
  exact Nat.le_trans (List.length_filter_le _ _) (by simp)

end Go.Proofs.Ytglokdfdogmmhaa

/- Parts of a graph: a search that lists the nodes as they are left, one that collects what leads to a node. No program in sight. -/
namespace Go.Proofs.Ytglokdfdogmmhaa
set_option linter.unusedVariables false
set_option linter.unusedSimpArgs false

/-! Nodes as they are left; the caller asks whether a node has been met. -/
def dfsP (rows : List (List Int)) : Nat → DS → Nat → DS
  | 0, s, _ => s
  | k + 1, s, v =>
    let r := (rows.getD v []).foldl (fun s t => if seen s.1 t.toNat = true then s else dfsP rows k s t.toNat) (s.1.set v true, s.2)
    (r.1, r.2 ++ [(v : Int)])
def dfsPTo (rows : List (List Int)) (k : Nat) (s : DS) (l : List Int) (i : Nat) : DS := (l.take i).foldl (fun s t => if seen s.1 t.toNat = true then s else dfsP rows k s t.toNat) s
theorem dfsPTo_succ (rows : List (List Int)) (k : Nat) (s : DS) {l : List Int} {i : Nat} (h : i < l.length) : dfsPTo rows k s l (i + 1) = if seen (dfsPTo rows k s l i).1 (l.getD i 0).toNat = true then dfsPTo rows k s l i else dfsP rows k (dfsPTo rows k s l i) (l.getD i 0).toNat := by
  unfold dfsPTo
  rw [List.take_add_one, List.getElem?_eq_getElem h, List.foldl_append, getD_lt _ _ h]
  rfl
theorem dfsP_new (rows : List (List Int)) (k v : Nat) (s : DS) : dfsP rows (k + 1) s v = ((dfsPTo rows k (s.1.set v true, s.2) (rows.getD v []) (rows.getD v []).length).1, (dfsPTo rows k (s.1.set v true, s.2) (rows.getD v []) (rows.getD v []).length).2 ++ [(v : Int)]) := by
  unfold dfsPTo
  rw [List.take_length]
  rfl
theorem dfsP_spec {rows : List (List Int)} {n : Nat} (hr : ∀ v, ∀ t ∈ rows.getD v [], 0 ≤ t ∧ t.toNat < n) {F : Nat → Nat → Prop} (hF : ∀ v, F v v) (hS : ∀ v, ∀ t ∈ rows.getD v [], ∀ u, F t.toNat u → F v u) :
    ∀ (k : Nat) (s : DS) (v : Nat), s.1.length = n → v < n → unseen s.1 ≤ k → seen s.1 v = false → DR rows (F v) s (dfsP rows k s v) ∧ seen (dfsP rows k s v).1 v = true
  | 0, s, v, hl, hv, hk, hs => by rw [unseen_none s.1 (by omega) v (by omega)] at hs; cases hs
  | k + 1, s, v, hl, hv, hk, hsf => by
    have e : dfsP rows (k + 1) s v = (((rows.getD v []).foldl (fun s t => if seen s.1 t.toNat = true then s else dfsP rows k s t.toNat) (s.1.set v true, s.2)).1, ((rows.getD v []).foldl (fun s t => if seen s.1 t.toNat = true then s else dfsP rows k s t.toNat) (s.1.set v true, s.2)).2 ++ [(v : Int)]) := rfl
    have hu := unseen_set s.1 v (by omega) hsf
    rw [e]
    obtain ⟨s1, hs1⟩ : ∃ s1 : DS, (s.1.set v true, s.2) = s1 := ⟨_, rfl⟩
    have h1l : s1.1.length = n := by rw [← hs1]; simpa using hl
    have h1u : unseen s1.1 ≤ k := by rw [← hs1]; show unseen (s.1.set v true) ≤ k; omega
    have h1s : ∀ u, seen s1.1 u = if v = u then true else seen s.1 u := fun u => by rw [← hs1]; exact seen_set (by omega)
    rw [hs1]
    have key : ∀ (l : List Int) (a : DS), (∀ t ∈ l, t ∈ rows.getD v []) → a.1.length = n → unseen a.1 ≤ k →
        DR rows (F v) a (l.foldl (fun s t => if seen s.1 t.toNat = true then s else dfsP rows k s t.toNat) a) ∧ ∀ t ∈ l, seen (l.foldl (fun s t => if seen s.1 t.toNat = true then s else dfsP rows k s t.toNat) a).1 t.toNat = true := by
      intro l
      induction l with
      | nil => intro a _ _ _; exact ⟨DR.refl a, fun t ht => by cases ht⟩
      | cons t l ih =>
        intro a ht ha hka
        have htm := ht t (by simp)
        have hone : DR rows (F v) a (if seen a.1 t.toNat = true then a else dfsP rows k a t.toNat) ∧ seen (if seen a.1 t.toNat = true then a else dfsP rows k a t.toNat).1 t.toNat = true := by
          by_cases hs : seen a.1 t.toNat = true
          · rw [if_pos hs]; exact ⟨DR.refl a, hs⟩
          · rw [if_neg hs]
            obtain ⟨d1, d2⟩ := dfsP_spec hr hF hS k a t.toNat ha (hr v t htm).2 hka (by simpa using hs)
            exact ⟨d1.weaken (hS v t htm), d2⟩
        rw [List.foldl_cons]
        generalize (if seen a.1 t.toNat = true then a else dfsP rows k a t.toNat) = b at hone ⊢
        obtain ⟨d1, d2⟩ := hone
        obtain ⟨d3, d4⟩ := ih b (fun t h => ht t (by simp [h])) (by rw [d1.len, ha]) (by have := d1.unseen; omega)
        refine ⟨d1.trans d3, fun x hx => ?_⟩
        rcases List.mem_cons.1 hx with rfl | hx
        · exact d3.mono _ d2
        · exact d4 x hx
    obtain ⟨d, dt⟩ := key (rows.getD v []) s1 (fun t h => h) h1l h1u
    generalize (rows.getD v []).foldl (fun s t => if seen s.1 t.toNat = true then s else dfsP rows k s t.toNat) s1 = s' at d dt ⊢
    have hv' : seen s'.1 v = true := d.mono v (by rw [h1s, if_pos rfl])
    refine ⟨⟨by rw [d.len, h1l, hl], fun u hu => d.mono u (by rw [h1s]; split <;> first | rfl | exact hu), fun u hu hn t ht => ?_, fun u hu hn => ?_, ?_⟩, hv'⟩
    · by_cases huv : v = u
      · subst huv; exact dt t ht
      · exact d.closed u hu (by rw [h1s, if_neg huv]; exact hn) t ht
    · by_cases huv : v = u
      · subst huv; exact hF v
      · exact d.way u hu (by rw [h1s, if_neg huv]; exact hn)
    · obtain ⟨L, e1, n1, m1⟩ := d.nodes
      have hvL : (v : Int) ∉ L := fun hm => by
        obtain ⟨u, hu, _, h2⟩ := (m1 _).1 hm
        have : v = u := by omega
        subst this
        rw [h1s, if_pos rfl] at h2; cases h2
      refine ⟨L ++ [(v : Int)], by rw [e1, ← hs1]; simp, List.nodup_append.2 ⟨n1, by simp, fun x hx y hy e => ?_⟩, fun x => ?_⟩
      · rw [List.mem_singleton] at hy; subst hy; subst e; exact hvL hx
      · rw [List.mem_append, List.mem_singleton, m1]
        constructor
        · rintro (⟨u, rfl, h1, h2⟩ | rfl)
          · refine ⟨u, rfl, h1, ?_⟩
            rw [h1s] at h2
            split at h2
            · cases h2
            · exact h2
          · exact ⟨v, rfl, hv', hsf⟩
        · rintro ⟨u, rfl, h1, h2⟩
          by_cases huv : v = u
          · subst huv; exact .inr rfl
          · exact .inl ⟨u, rfl, h1, by rw [h1s, if_neg huv]; exact h2⟩
theorem dfsP_more {rows : List (List Int)} {n : Nat} (hr : ∀ v, ∀ t ∈ rows.getD v [], 0 ≤ t ∧ t.toNat < n) {k : Nat} {s : DS} {v : Nat} (hl : s.1.length = n) (hv : v < n) (hk : unseen s.1 ≤ k) (hs : seen s.1 v = false) : (dfsP rows k s v).1.length = n ∧ unseen (dfsP rows k s v).1 ≤ unseen s.1 := by
  have h := (dfsP_spec hr (F := fun _ _ => True) (fun _ => trivial) (fun _ _ _ _ _ => trivial) k s v hl hv hk hs).1
  exact ⟨by rw [h.len, hl], h.unseen⟩
theorem dfsP_count {rows : List (List Int)} {n : Nat} (hr : ∀ v, ∀ t ∈ rows.getD v [], 0 ≤ t ∧ t.toNat < n) : ∀ (k : Nat) (s : DS) (v : Nat), s.1.length = n → v < n → unseen s.1 ≤ k → seen s.1 v = false → (dfsP rows k s v).2.length + unseen (dfsP rows k s v).1 = s.2.length + unseen s.1
  | 0, s, v, hl, hv, hk, _ => rfl
  | k + 1, s, v, hl, hv, hk, hs => by
    have e : dfsP rows (k + 1) s v = (((rows.getD v []).foldl (fun s t => if seen s.1 t.toNat = true then s else dfsP rows k s t.toNat) (s.1.set v true, s.2)).1, ((rows.getD v []).foldl (fun s t => if seen s.1 t.toNat = true then s else dfsP rows k s t.toNat) (s.1.set v true, s.2)).2 ++ [(v : Int)]) := rfl
    have hu := unseen_set s.1 v (by omega) hs
    rw [e]
    have key : ∀ (l : List Int) (a : DS), (∀ t ∈ l, t ∈ rows.getD v []) → a.1.length = n → unseen a.1 ≤ k → (l.foldl (fun s t => if seen s.1 t.toNat = true then s else dfsP rows k s t.toNat) a).2.length + unseen (l.foldl (fun s t => if seen s.1 t.toNat = true then s else dfsP rows k s t.toNat) a).1 = a.2.length + unseen a.1 := by
      intro l
      induction l with
      | nil => intro a _ _ _; rfl
      | cons t l ih =>
        intro a ht ha hka
        have htm := hr v t (ht t (by simp))
        rw [List.foldl_cons]
        by_cases h : seen a.1 t.toNat = true
        · rw [if_pos h]; exact ih a (fun t h => ht t (by simp [h])) ha hka
        · rw [if_neg h]
          have h : seen a.1 t.toNat = false := by simpa using h
          obtain ⟨h1, h2⟩ := dfsP_more hr (v := t.toNat) ha htm.2 hka h
          rw [ih (dfsP rows k a t.toNat) (fun t h => ht t (by simp [h])) h1 (by omega)]
          exact dfsP_count hr k a t.toNat ha htm.2 hka h
    have := key _ (s.1.set v true, s.2) (fun t h => h) (by simpa using hl) (by show unseen (s.1.set v true) ≤ k; omega)
    simp only [List.length_append, List.length_singleton]
    have h2 : unseen (s.1.set v true, s.2).1 = unseen (s.1.set v true) := rfl
    have h3 : (s.1.set v true, s.2).2.length = s.2.length := rfl
    omega
theorem dfsPTo_more {rows : List (List Int)} {n : Nat} (hr : ∀ v, ∀ t ∈ rows.getD v [], 0 ≤ t ∧ t.toNat < n) {k v : Nat} {s : DS} (hl : s.1.length = n) (hk : unseen s.1 ≤ k) : ∀ i, i ≤ (rows.getD v []).length → (dfsPTo rows k s (rows.getD v []) i).1.length = n ∧ unseen (dfsPTo rows k s (rows.getD v []) i).1 ≤ k ∧
    (dfsPTo rows k s (rows.getD v []) i).2.length + unseen (dfsPTo rows k s (rows.getD v []) i).1 = s.2.length + unseen s.1
  | 0, _ => ⟨hl, hk, rfl⟩
  | i + 1, hi => by
    obtain ⟨h1, h2, h3⟩ := dfsPTo_more hr (v := v) hl hk i (by omega)
    have ht : (rows.getD v []).getD i 0 ∈ rows.getD v [] := by rw [getD_lt _ _ (by omega : i < (rows.getD v []).length)]; exact List.getElem_mem _
    have hb := hr v _ ht
    rw [dfsPTo_succ _ _ _ (by omega)]
    split
    · exact ⟨h1, h2, h3⟩
    · rename_i h
      have h : seen (dfsPTo rows k s (rows.getD v []) i).1 ((rows.getD v []).getD i 0).toNat = false := by simpa using h
      obtain ⟨a, b⟩ := dfsP_more hr (v := ((rows.getD v []).getD i 0).toNat) h1 hb.2 h2 h
      exact ⟨a, by omega, by rw [dfsP_count hr k _ _ h1 hb.2 h2 h]; exact h3⟩

/-! What leads to a node, with a number for each node that has been collected. -/
abbrev CS := List Int × List Int
def free0 : List Int → Nat
  | [] => 0
  | x :: r => (if x = 0 then 1 else 0) + free0 r
theorem free0_none : ∀ (l : List Int), free0 l = 0 → ∀ v, v < l.length → l.getD v 0 ≠ 0
  | [], _, v, hv => by simp at hv
  | x :: r, h, v, hv => by
    simp only [free0] at h
    by_cases hx : x = 0
    · rw [if_pos hx] at h; omega
    · cases v with
      | zero => simpa using hx
      | succ v => simpa using free0_none r (by omega) v (by simpa using hv)
theorem free0_set : ∀ (l : List Int) (v : Nat) {c : Int}, c ≠ 0 → v < l.length → l.getD v 0 = 0 → free0 (l.set v c) + 1 = free0 l
  | [], v, c, hc, hv, _ => by simp at hv
  | x :: r, 0, c, hc, hv, h => by
    have hx : x = 0 := by simpa using h
    subst hx
    simp [free0, hc]; omega
  | x :: r, v + 1, c, hc, hv, h => by
    have := free0_set r v hc (by simpa using hv) (by simpa using h)
    simp only [List.set_cons_succ, free0]
    omega
theorem free0_replicate (n : Nat) : free0 (List.replicate n 0) = n := by
  induction n with
  | zero => rfl
  | succ n ih => rw [List.replicate_succ, free0, ih]; simp; omega
def colP (rows : List (List Int)) (c : Int) : Nat → CS → Nat → CS
  | 0, s, _ => s
  | k + 1, s, v => (rows.getD v []).foldl (fun s t => if s.1.getD t.toNat 0 = 0 then colP rows c k s t.toNat else s) (s.1.set v c, s.2 ++ [(v : Int)])
def colTo (rows : List (List Int)) (c : Int) (k : Nat) (s : CS) (l : List Int) (i : Nat) : CS := (l.take i).foldl (fun s t => if s.1.getD t.toNat 0 = 0 then colP rows c k s t.toNat else s) s
theorem colTo_succ (rows : List (List Int)) (c : Int) (k : Nat) (s : CS) {l : List Int} {i : Nat} (h : i < l.length) : colTo rows c k s l (i + 1) = if (colTo rows c k s l i).1.getD (l.getD i 0).toNat 0 = 0 then colP rows c k (colTo rows c k s l i) (l.getD i 0).toNat else colTo rows c k s l i := by
  unfold colTo
  rw [List.take_add_one, List.getElem?_eq_getElem h, List.foldl_append, getD_lt _ _ h]
  rfl
theorem colP_new (rows : List (List Int)) (c : Int) (k v : Nat) (s : CS) : colP rows c (k + 1) s v = colTo rows c k (s.1.set v c, s.2 ++ [(v : Int)]) (rows.getD v []) (rows.getD v []).length := by
  unfold colTo
  rw [List.take_length]
  rfl
theorem colP_more {rows : List (List Int)} {n : Nat} (hr : ∀ v, ∀ t ∈ rows.getD v [], 0 ≤ t ∧ t.toNat < n) {c : Int} (hc : c ≠ 0) : ∀ (k : Nat) (s : CS) (v : Nat), s.1.length = n → v < n → free0 s.1 ≤ k → s.1.getD v 0 = 0 → (colP rows c k s v).1.length = n ∧ free0 (colP rows c k s v).1 ≤ free0 s.1 ∧ (colP rows c k s v).2.length + free0 (colP rows c k s v).1 = s.2.length + free0 s.1
  | 0, s, v, hl, hv, hk, hs => absurd hs (free0_none s.1 (by omega) v (by omega))
  | k + 1, s, v, hl, hv, hk, hs => by
    have hu := free0_set s.1 v hc (by omega) hs
    have e : colP rows c (k + 1) s v = (rows.getD v []).foldl (fun s t => if s.1.getD t.toNat 0 = 0 then colP rows c k s t.toNat else s) (s.1.set v c, s.2 ++ [(v : Int)]) := rfl
    have key : ∀ (l : List Int) (a : CS), (∀ t ∈ l, t ∈ rows.getD v []) → a.1.length = n → free0 a.1 ≤ k →
        (l.foldl (fun s t => if s.1.getD t.toNat 0 = 0 then colP rows c k s t.toNat else s) a).1.length = n ∧ free0 (l.foldl (fun s t => if s.1.getD t.toNat 0 = 0 then colP rows c k s t.toNat else s) a).1 ≤ free0 a.1 ∧
        (l.foldl (fun s t => if s.1.getD t.toNat 0 = 0 then colP rows c k s t.toNat else s) a).2.length + free0 (l.foldl (fun s t => if s.1.getD t.toNat 0 = 0 then colP rows c k s t.toNat else s) a).1 = a.2.length + free0 a.1 := by
      intro l
      induction l with
      | nil => intro a _ ha _; exact ⟨ha, Nat.le_refl _, rfl⟩
      | cons t l ih =>
        intro a ht ha hka
        have htm := hr v t (ht t (by simp))
        rw [List.foldl_cons]
        by_cases h : a.1.getD t.toNat 0 = 0
        · rw [if_pos h]
          obtain ⟨h1, h2, h3⟩ := colP_more hr hc k a t.toNat ha htm.2 hka h
          obtain ⟨g1, g2, g3⟩ := ih (colP rows c k a t.toNat) (fun t h => ht t (by simp [h])) h1 (by omega)
          exact ⟨g1, by omega, by omega⟩
        · rw [if_neg h]; exact ih a (fun t h => ht t (by simp [h])) ha hka
    obtain ⟨h1, h2, h3⟩ := key _ (s.1.set v c, s.2 ++ [(v : Int)]) (fun t h => h) (by simpa using hl) (by show free0 (s.1.set v c) ≤ k; omega)
    rw [e]
    have h4 : (s.1.set v c, s.2 ++ [(v : Int)]).2.length = s.2.length + 1 := by simp
    have h5 : free0 (s.1.set v c, s.2 ++ [(v : Int)]).1 = free0 (s.1.set v c) := rfl
    exact ⟨h1, by omega, by omega⟩
theorem colTo_more {rows : List (List Int)} {n : Nat} (hr : ∀ v, ∀ t ∈ rows.getD v [], 0 ≤ t ∧ t.toNat < n) {c : Int} (hc : c ≠ 0) {k v : Nat} {s : CS} (hl : s.1.length = n) (hk : free0 s.1 ≤ k) : ∀ i, i ≤ (rows.getD v []).length → (colTo rows c k s (rows.getD v []) i).1.length = n ∧ free0 (colTo rows c k s (rows.getD v []) i).1 ≤ k ∧
    (colTo rows c k s (rows.getD v []) i).2.length + free0 (colTo rows c k s (rows.getD v []) i).1 = s.2.length + free0 s.1
  | 0, _ => ⟨hl, hk, rfl⟩
  | i + 1, hi => by
    obtain ⟨h1, h2, h3⟩ := colTo_more hr hc (v := v) hl hk i (by omega)
    have ht : (rows.getD v []).getD i 0 ∈ rows.getD v [] := by rw [getD_lt _ _ (by omega : i < (rows.getD v []).length)]; exact List.getElem_mem _
    have hb := hr v _ ht
    rw [colTo_succ _ _ _ _ (by omega)]
    split
    · rename_i h
      obtain ⟨a, b, d⟩ := colP_more hr hc k _ ((rows.getD v []).getD i 0).toNat h1 hb.2 h2 h
      exact ⟨a, by omega, by omega⟩
    · exact ⟨h1, h2, h3⟩

theorem colTo_le {rows : List (List Int)} {n : Nat} (hr : ∀ v, ∀ t ∈ rows.getD v [], 0 ≤ t ∧ t.toNat < n) {c : Int} (hc : c ≠ 0) {k v : Nat} {s : CS} (hl : s.1.length = n) (hk : free0 s.1 ≤ k) : ∀ i, i ≤ (rows.getD v []).length → free0 (colTo rows c k s (rows.getD v []) i).1 ≤ free0 s.1
  | 0, _ => Nat.le_refl _
  | i + 1, hi => by
    obtain ⟨h1, h2, h3⟩ := colTo_more hr hc (v := v) hl hk i (by omega)
    have ih := colTo_le hr hc (v := v) hl hk i (by omega)
    have ht : (rows.getD v []).getD i 0 ∈ rows.getD v [] := by rw [getD_lt _ _ (by omega : i < (rows.getD v []).length)]; exact List.getElem_mem _
    have hb := hr v _ ht
    rw [colTo_succ _ _ _ _ (by omega)]
    split
    · rename_i h
      obtain ⟨a, b, d⟩ := colP_more hr hc k _ ((rows.getD v []).getD i 0).toNat h1 hb.2 h2 h
      omega
    · exact ih
theorem colP_less {rows : List (List Int)} {n : Nat} (hr : ∀ v, ∀ t ∈ rows.getD v [], 0 ≤ t ∧ t.toNat < n) {c : Int} (hc : c ≠ 0) {k : Nat} {s : CS} {v : Nat} (hl : s.1.length = n) (hv : v < n) (hk : free0 s.1 ≤ k) (hs : s.1.getD v 0 = 0) : free0 (colP rows c k s v).1 + 1 ≤ free0 s.1 := by
  have hu := free0_set s.1 v hc (by omega) hs
  cases k with
  | zero => exact absurd hs (free0_none s.1 (by omega) v (by omega))
  | succ k =>
    rw [colP_new]
    have := colTo_le hr hc (k := k) (v := v) (s := (s.1.set v c, s.2 ++ [(v : Int)])) (by simpa using hl) (by show free0 (s.1.set v c) ≤ k; omega) _ (Nat.le_refl _)
    have h5 : free0 (s.1.set v c, s.2 ++ [(v : Int)]).1 = free0 (s.1.set v c) := rfl
    omega
/-! All parts. -/
abbrev AS := List Int × List (List Int)
def colStep (rows : List (List Int)) (n : Nat) (s : AS) (v : Int) : AS := if s.1.getD v.toNat 0 = 0 then ((colP rows ((s.2.length + 1 : Nat) : Int) n (s.1, []) v.toNat).1, s.2 ++ [(colP rows ((s.2.length + 1 : Nat) : Int) n (s.1, []) v.toNat).2]) else s
def colAll (rows : List (List Int)) (n : Nat) (l : List Int) (m : Nat) : AS := (l.reverse.take m).foldl (colStep rows n) (List.replicate n 0, [])
theorem colAll_succ (rows : List (List Int)) (n : Nat) {l : List Int} {m : Nat} (h : m < l.length) : colAll rows n l (m + 1) = colStep rows n (colAll rows n l m) (l.getD (l.length - 1 - m) 0) := by
  unfold colAll
  rw [List.take_add_one, List.getElem?_eq_getElem (by simpa using h), List.foldl_append, List.getElem_reverse, getD_lt _ _ (by omega)]
  rfl
theorem colStep_more {rows : List (List Int)} {n : Nat} (hr : ∀ v, ∀ t ∈ rows.getD v [], 0 ≤ t ∧ t.toNat < n) {s : AS} {v : Int} (hl : s.1.length = n) (hs : s.2.length + free0 s.1 ≤ n) (hv : v.toNat < n) : (colStep rows n s v).1.length = n ∧ (colStep rows n s v).2.length + free0 (colStep rows n s v).1 ≤ n := by
  unfold colStep
  split
  · rename_i h
    obtain ⟨a, b, d⟩ := colP_more hr (c := ((s.2.length + 1 : Nat) : Int)) (by omega) n (s.1, []) v.toNat hl hv (by show free0 s.1 ≤ n; omega) h
    have := colP_less hr (c := ((s.2.length + 1 : Nat) : Int)) (by omega) (k := n) (s := (s.1, [])) hl hv (by show free0 s.1 ≤ n; omega) h
    refine ⟨a, ?_⟩
    have h5 : free0 ((s.1, []) : CS).1 = free0 s.1 := rfl
    simp only [List.length_append, List.length_singleton]
    omega
  · exact ⟨hl, hs⟩
theorem colAll_more {rows : List (List Int)} {n : Nat} (hr : ∀ v, ∀ t ∈ rows.getD v [], 0 ≤ t ∧ t.toNat < n) {l : List Int} (hl : ∀ v ∈ l, 0 ≤ v ∧ v.toNat < n) : ∀ m, m ≤ l.length → (colAll rows n l m).1.length = n ∧ (colAll rows n l m).2.length + free0 (colAll rows n l m).1 ≤ n
  | 0, _ => by
    show (List.replicate n (0 : Int)).length = n ∧ ([] : List (List Int)).length + free0 (List.replicate n 0) ≤ n
    rw [free0_replicate]; simp
  | m + 1, h => by
    obtain ⟨h1, h2⟩ := colAll_more hr hl m (by omega)
    rw [colAll_succ _ _ (by omega)]
    exact colStep_more hr h1 h2 (hl _ (by rw [getD_lt _ _ (by omega)]; exact List.getElem_mem _)).2

/-! The order in which the nodes are left. -/
def leftTo (rows : List (List Int)) (n : Nat) (i : Nat) : DS := (List.range i).foldl (fun s v => if seen s.1 v = true then s else dfsP rows n s v) (List.replicate n false, [])
theorem leftTo_succ (rows : List (List Int)) (n i : Nat) : leftTo rows n (i + 1) = if seen (leftTo rows n i).1 i = true then leftTo rows n i else dfsP rows n (leftTo rows n i) i := by
  unfold leftTo
  rw [List.range_succ, List.foldl_append]
  rfl
theorem leftTo_more {rows : List (List Int)} {n : Nat} (hr : ∀ v, ∀ t ∈ rows.getD v [], 0 ≤ t ∧ t.toNat < n) : ∀ i, i ≤ n → (leftTo rows n i).1.length = n ∧ (leftTo rows n i).2.length + unseen (leftTo rows n i).1 = n
  | 0, _ => by
    show (List.replicate n false).length = n ∧ ([] : List Int).length + unseen (List.replicate n false) = n
    rw [unseen_replicate]; simp
  | i + 1, h => by
    obtain ⟨h1, h2⟩ := leftTo_more hr i (by omega)
    rw [leftTo_succ]
    split
    · exact ⟨h1, h2⟩
    · rename_i hs
      have hs : seen (leftTo rows n i).1 i = false := by simpa using hs
      obtain ⟨a, b⟩ := dfsP_more hr h1 (show i < n by omega) (k := n) (by omega) hs
      exact ⟨a, by rw [dfsP_count hr n _ i h1 (by omega) (by omega) hs]; exact h2⟩
/-- All that is known of the search up to a place. -/
theorem leftTo_DR {rows : List (List Int)} {n : Nat} (hr : ∀ v, ∀ t ∈ rows.getD v [], 0 ≤ t ∧ t.toNat < n) : ∀ i, i ≤ n → DR rows (fun _ => True) (List.replicate n false, []) (leftTo rows n i) ∧ ∀ v, v < i → seen (leftTo rows n i).1 v = true
  | 0, _ => ⟨DR.refl _, fun v hv => by omega⟩
  | i + 1, h => by
    obtain ⟨d, hd⟩ := leftTo_DR hr i (by omega)
    obtain ⟨h1, h2⟩ := leftTo_more hr i (by omega)
    rw [leftTo_succ]
    split
    · rename_i hs
      exact ⟨d, fun v hv => by
        by_cases e : v = i
        · subst e; exact hs
        · exact hd v (by omega)⟩
    · rename_i hs
      have hs : seen (leftTo rows n i).1 i = false := by simpa using hs
      obtain ⟨d2, hv2⟩ := dfsP_spec hr (F := fun _ _ => True) (fun _ => trivial) (fun _ _ _ _ _ => trivial) n _ i h1 (by omega) (by omega) hs
      exact ⟨d.trans d2, fun v hv => by
        by_cases e : v = i
        · subst e; exact hv2
        · exact d2.mono v (hd v (by omega))⟩
theorem left_mem {rows : List (List Int)} {n : Nat} (hr : ∀ v, ∀ t ∈ rows.getD v [], 0 ≤ t ∧ t.toNat < n) : (leftTo rows n n).2.Nodup ∧ ∀ x, x ∈ (leftTo rows n n).2 ↔ ∃ u : Nat, x = (u : Int) ∧ u < n := by
  obtain ⟨d, hd⟩ := leftTo_DR hr n (Nat.le_refl _)
  have hF : ∀ u, seen (List.replicate n false) u = false := fun u => by simp [seen, List.getD_eq_getElem?_getD, List.getElem?_replicate]; split <;> rfl
  obtain ⟨L, e1, n1, m1⟩ := d.nodes
  have e2 : (leftTo rows n n).2 = L := by rw [e1]; simp
  rw [e2]
  refine ⟨n1, fun x => ?_⟩
  rw [m1]
  constructor
  · rintro ⟨u, rfl, h1, _⟩
    have := seen_lt h1
    rw [(leftTo_more hr n (Nat.le_refl _)).1] at this
    exact ⟨u, rfl, this⟩
  · rintro ⟨u, rfl, h1⟩; exact ⟨u, rfl, hd u h1, hF u⟩
theorem left_len {rows : List (List Int)} {n : Nat} (hr : ∀ v, ∀ t ∈ rows.getD v [], 0 ≤ t ∧ t.toNat < n) : (leftTo rows n n).2.length = n := by
  obtain ⟨h1, h2⟩ := leftTo_more hr n (Nat.le_refl _)
  have h3 : unseen (leftTo rows n n).1 = 0 := by
    have hd := (leftTo_DR hr n (Nat.le_refl _)).2
    have : ∀ l : List Bool, (∀ v, v < l.length → seen l v = true) → unseen l = 0 := by
      intro l
      induction l with
      | nil => intro _; rfl
      | cons b r ih =>
        intro h
        have hb : b = true := by simpa [seen] using h 0 (by simp)
        have := ih fun v hv => by simpa [seen] using h (v + 1) (by simpa using hv)
        simp [unseen, hb, this]
    exact this _ fun v hv => hd v (by omega)
  omega

end Go.Proofs.Ytglokdfdogmmhaa

/- Parts in their order: what arrange computes. No program in sight. -/
namespace Go.Proofs.Ytglokdfdogmmhaa
set_option linter.unusedVariables false
set_option linter.unusedSimpArgs false

abbrev RL := List (List Int)
abbrev hd (r : List Int) : Int := r.getD 0 0
def swapL (c : RL) (j : Nat) : RL := (c.set (j + 1) (c.getD j [])).set j (c.getD (j + 1) [])
theorem swapL_len (c : RL) (j : Nat) : (swapL c j).length = c.length := by simp [swapL]
theorem getD_in {α : Type} {l : List α} {i : Nat} (d : α) (h : i < l.length) : l.getD i d ∈ l := by rw [getD_lt _ _ h]; exact List.getElem_mem h
theorem swapL_mem {c : RL} {j : Nat} (h : j + 1 < c.length) {r : List Int} (hr : r ∈ swapL c j) : r ∈ c := by
  unfold swapL at hr
  rcases List.mem_or_eq_of_mem_set hr with hr | rfl
  · rcases List.mem_or_eq_of_mem_set hr with hr | rfl
    · exact hr
    · exact getD_in _ (by omega)
  · exact getD_in _ h
/-- Down while it is less than the one ahead. -/
def sink (c : RL) : Nat → RL
  | 0 => c
  | j + 1 => if hd (c.getD (j + 1) []) - hd (c.getD j []) < 0 then sink (swapL c j) j else c
theorem sink_len : ∀ (j : Nat) (c : RL), (sink c j).length = c.length
  | 0, c => rfl
  | j + 1, c => by
    unfold sink
    split
    · rw [sink_len j, swapL_len]
    · rfl
theorem sink_mem : ∀ (j : Nat) (c : RL), j < c.length → ∀ r ∈ sink c j, r ∈ c
  | 0, c, _, r, hr => hr
  | j + 1, c, h, r, hr => by
    unfold sink at hr
    split at hr
    · exact swapL_mem h (sink_mem j (swapL c j) (by rw [swapL_len]; omega) r hr)
    · exact hr
def insTo (c : RL) : Nat → RL
  | 0 => c
  | i + 1 => sink (insTo c i) (i + 1)
theorem insTo_len (c : RL) : ∀ i, (insTo c i).length = c.length
  | 0 => rfl
  | i + 1 => by rw [insTo, sink_len, insTo_len c i]
theorem insTo_mem (c : RL) : ∀ i, i < c.length → ∀ r ∈ insTo c i, r ∈ c
  | 0, _, r, hr => hr
  | i + 1, h, r, hr => insTo_mem c i (by omega) r (sink_mem (i + 1) _ (by rw [insTo_len]; exact h) r hr)
/-- Rows that are not empty, with small heads. -/
def Hds (c : RL) : Prop := ∀ r ∈ c, 0 < r.length ∧ 0 ≤ hd r ∧ hd r ≤ 1048576
theorem Hds.at {c : RL} (h : Hds c) {j : Nat} (hj : j < c.length) : 0 < (c.getD j []).length ∧ 0 ≤ hd (c.getD j []) ∧ hd (c.getD j []) ≤ 1048576 := h _ (getD_in _ hj)
theorem Hds.sub {c d : RL} (h : Hds c) (hs : ∀ r ∈ d, r ∈ c) : Hds d := fun r hr => h r (hs r hr)
abbrev byHead (c : RL) : RL := insTo c (c.length - 1)

/-! The parts that wait. -/
def Gr.waitE (g : Gr) (part w : List Int) (i : Nat) : List Int :=
  if part.getD (g.es.getD i default).f.toNat 0 ≠ part.getD (g.es.getD i default).t.toNat 0 then w.set (part.getD (g.es.getD i default).t.toNat 0).toNat (w.getD (part.getD (g.es.getD i default).t.toNat 0).toNat 0 + 1) else w
def Gr.waitTo (g : Gr) (part w : List Int) : Nat → List Int
  | 0 => w
  | i + 1 => g.waitE part (g.waitTo part w i) i
def Gr.lessE (g : Gr) (part : List Int) (p : Int) (w : List Int) (i : Nat) : List Int :=
  if part.getD (g.es.getD i default).f.toNat 0 = p ∧ part.getD (g.es.getD i default).t.toNat 0 ≠ part.getD (g.es.getD i default).f.toNat 0 then w.set (part.getD (g.es.getD i default).t.toNat 0).toNat (w.getD (part.getD (g.es.getD i default).t.toNat 0).toNat 0 - 1) else w
def Gr.lessTo (g : Gr) (part : List Int) (p : Int) (w : List Int) : Nat → List Int
  | 0 => w
  | i + 1 => g.lessE part p (g.lessTo part p w i) i
theorem waitTo_len (g : Gr) (part w : List Int) : ∀ i, (g.waitTo part w i).length = w.length
  | 0 => rfl
  | i + 1 => by
    show (g.waitE part (g.waitTo part w i) i).length = _
    unfold Gr.waitE
    split
    · rw [List.length_set, waitTo_len g part w i]
    · exact waitTo_len g part w i
theorem lessTo_len (g : Gr) (part : List Int) (p : Int) (w : List Int) : ∀ i, (g.lessTo part p w i).length = w.length
  | 0 => rfl
  | i + 1 => by
    show (g.lessE part p (g.lessTo part p w i) i).length = _
    unfold Gr.lessE
    split
    · rw [List.length_set, lessTo_len g part p w i]
    · exact lessTo_len g part p w i
theorem getDI_set (l : List Int) (i j : Nat) (x : Int) : (l.set i x).getD j 0 = if i = j ∧ i < l.length then x else l.getD j 0 := by
  simp only [List.getD_eq_getElem?_getD, List.getElem?_set]
  by_cases h : i = j
  · subst h
    by_cases h2 : i < l.length
    · simp [h2]
    · simp [h2, List.getElem?_eq_none (by omega : l.length ≤ i)]
  · simp [h]
theorem waitTo_bd (g : Gr) (part w : List Int) : ∀ i j, w.getD j 0 ≤ (g.waitTo part w i).getD j 0 ∧ (g.waitTo part w i).getD j 0 ≤ w.getD j 0 + i
  | 0, j => by show _ ≤ w.getD j 0 ∧ w.getD j 0 ≤ _; omega
  | i + 1, j => by
    have ih := waitTo_bd g part w i
    show _ ≤ (g.waitE part (g.waitTo part w i) i).getD j 0 ∧ (g.waitE part (g.waitTo part w i) i).getD j 0 ≤ _
    unfold Gr.waitE
    have h := ih j
    split
    · rw [getDI_set]
      split
      · rename_i e; rw [e.1]; omega
      · omega
    · omega
theorem lessTo_bd (g : Gr) (part : List Int) (p : Int) (w : List Int) : ∀ i j, w.getD j 0 - i ≤ (g.lessTo part p w i).getD j 0 ∧ (g.lessTo part p w i).getD j 0 ≤ w.getD j 0
  | 0, j => by show _ ≤ w.getD j 0 ∧ w.getD j 0 ≤ _; omega
  | i + 1, j => by
    have ih := lessTo_bd g part p w i
    show _ ≤ (g.lessE part p (g.lessTo part p w i) i).getD j 0 ∧ (g.lessE part p (g.lessTo part p w i) i).getD j 0 ≤ _
    unfold Gr.lessE
    have h := ih j
    split
    · rw [getDI_set]
      split
      · rename_i e; rw [e.1]; omega
      · omega
    · omega

/-! One after the other. -/
abbrev isFree (part w : List Int) (r : List Int) : Bool := decide (w.getD (part.getD (hd r).toNat 0).toNat 0 = 0)
def firstFree (part w : List Int) : RL → Option Nat
  | [] => none
  | r :: c => if isFree part w r = true then some 0 else (firstFree part w c).map (· + 1)
theorem firstFree_some (part w : List Int) : ∀ {c : RL} {i : Nat}, firstFree part w c = some i → i < c.length ∧ isFree part w (c.getD i []) = true ∧ ∀ j, j < i → isFree part w (c.getD j []) = false
  | [], i, h => by cases h
  | r :: c, i, h => by
    unfold firstFree at h
    split at h
    · rename_i hr
      injection h with h; subst h
      exact ⟨by simp, hr, fun j hj => by omega⟩
    · rename_i hr
      cases hc : firstFree part w c with
      | none => rw [hc] at h; cases h
      | some k =>
        rw [hc] at h
        injection h with h; subst h
        obtain ⟨a, b, d⟩ := firstFree_some part w hc
        refine ⟨by simpa using a, by simpa using b, fun j hj => ?_⟩
        cases j with
        | zero => simpa using hr
        | succ j => simpa using d j (by have h9 : j + 1 < k + 1 := hj; omega)
theorem firstFree_none (part w : List Int) : ∀ {c : RL}, firstFree part w c = none → ∀ r ∈ c, isFree part w r = false
  | [], _, r, hr => by cases hr
  | x :: c, h, r, hr => by
    unfold firstFree at h
    split at h
    · cases h
    · rename_i hx
      cases hc : firstFree part w c with
      | some k => rw [hc] at h; cases h
      | none =>
        rcases List.mem_cons.1 hr with rfl | hr
        · simpa using hx
        · exact firstFree_none part w hc r hr
structure AR where
  c : RL
  w : List Int
  o : RL
/-- One more part is placed. -/
def Gr.place (g : Gr) (part : List Int) (s : AR) : Option AR := (firstFree part s.w s.c).map fun i => ⟨s.c.eraseIdx i, g.lessTo part (part.getD (hd (s.c.getD i [])).toNat 0) s.w g.es.length, s.o ++ [s.c.getD i []]⟩
def Gr.placeAll (g : Gr) (part : List Int) : Nat → AR → Option AR
  | 0, s => some s
  | k + 1, s => (g.place part s).bind (g.placeAll part k)
/-- The rows in order. -/
def isort : List Int → List Int
  | [] => []
  | x :: l => ins x (isort l)
where ins (x : Int) : List Int → List Int
  | [] => [x]
  | y :: l => if x ≤ y then x :: y :: l else y :: ins x l
theorem ins_perm (x : Int) : ∀ l, (isort.ins x l).Perm (x :: l)
  | [] => List.Perm.refl _
  | y :: l => by
    unfold isort.ins
    split
    · exact List.Perm.refl _
    · exact ((ins_perm x l).cons y).trans (List.Perm.swap x y l)
theorem isort_perm : ∀ l, (isort l).Perm l
  | [] => List.Perm.refl _
  | x :: l => (ins_perm x _).trans ((isort_perm l).cons x)
theorem ins_sorted (x : Int) : ∀ l, l.Pairwise (· ≤ ·) → (isort.ins x l).Pairwise (· ≤ ·)
  | [], _ => by simp [isort.ins]
  | y :: l, h => by
    unfold isort.ins
    rw [List.pairwise_cons] at h
    split
    · rename_i hxy
      rw [List.pairwise_cons]
      refine ⟨fun z hz => ?_, List.pairwise_cons.2 h⟩
      rcases List.mem_cons.1 hz with rfl | hz
      · exact hxy
      · have := h.1 z hz; omega
    · rename_i hxy
      rw [List.pairwise_cons]
      refine ⟨fun z hz => ?_, ins_sorted x l h.2⟩
      rcases List.mem_cons.1 ((ins_perm x l).mem_iff.1 hz) with rfl | hz
      · omega
      · exact h.1 z hz
theorem isort_sorted : ∀ l, (isort l).Pairwise (· ≤ ·)
  | [] => List.Pairwise.nil
  | x :: l => ins_sorted x _ (isort_sorted l)
theorem isort_len (l : List Int) : (isort l).length = l.length := (isort_perm l).length_eq
abbrev startA (g : Gr) (part : List Int) (all : RL) : AR := ⟨byHead (all.map isort), g.waitTo part (List.replicate (all.length + 1) 0) g.es.length, []⟩
/-- What arrange computes: the parts, where one can always be placed. -/
def Gr.arrP (g : Gr) (part : List Int) (all : RL) : Option RL := (g.placeAll part all.length (startA g part all)).map (·.o)

theorem isort_eq {a b : List Int} (h : a.Perm b) (hs : a.Pairwise (· ≤ ·)) : a = isort b :=
  List.Perm.eq_of_pairwise (fun x y _ _ h1 h2 => by omega) hs (isort_sorted b) (h.trans (isort_perm b).symm)
/-- The rows, the first ones in order. -/
def srtTo (all : RL) : Nat → RL
  | 0 => all
  | i + 1 => (srtTo all i).set i (isort (all.getD i []))
theorem srtTo_len (all : RL) : ∀ i, (srtTo all i).length = all.length
  | 0 => rfl
  | i + 1 => by rw [srtTo, List.length_set, srtTo_len all i]
theorem srtTo_at (all : RL) : ∀ i, i ≤ all.length → ∀ j, (srtTo all i).getD j [] = if j < i then isort (all.getD j []) else all.getD j []
  | 0, _, j => by rw [if_neg (by omega)]; rfl
  | i + 1, h, j => by
    have ih := srtTo_at all i (by omega) j
    have hl := srtTo_len all i
    show ((srtTo all i).set i (isort (all.getD i []))).getD j [] = _
    simp only [List.getD_eq_getElem?_getD, List.getElem?_set] at *
    by_cases e : i = j
    · subst e
      rw [if_pos rfl, if_pos (by omega), if_pos (by omega)]; rfl
    · rw [if_neg e, ih]
      by_cases e2 : j < i
      · rw [if_pos e2, if_pos (by omega)]
      · rw [if_neg e2, if_neg (by omega)]
theorem srtTo_all (all : RL) : srtTo all all.length = all.map isort := by
  apply List.ext_getElem
  · rw [srtTo_len, List.length_map]
  · intro j h1 h2
    have hj : j < all.length := by rw [srtTo_len] at h1; exact h1
    have := srtTo_at all all.length (Nat.le_refl _) j
    rw [if_pos hj, getD_lt _ _ h1, getD_lt _ _ hj] at this
    rw [this]; simp

/-! The graph with its edges turned. -/
def Edg.rev (e : Edg) : Edg := { e with f := e.t, t := e.f }
def Gr.rev (g : Gr) : Gr := ⟨g.lat, g.es.map Edg.rev⟩
theorem rev_len (g : Gr) : g.rev.es.length = g.es.length := by simp [Gr.rev]
theorem rev_ok {g : Gr} (h : g.OK) : g.rev.OK := by
  refine ⟨h.n, by rw [rev_len]; exact h.m, h.lat, fun e he => ?_⟩
  obtain ⟨x, hx, rfl⟩ := List.mem_map.1 he
  have := h.es x hx
  exact ⟨this.2.1, this.1, this.2.2⟩
theorem rev_at {g : Gr} {i : Nat} (hi : i < g.es.length) : g.rev.es.getD i default = (g.es.getD i default).rev := by
  rw [getD_lt _ _ (by rw [rev_len]; exact hi), getD_lt _ _ hi]
  simp [Gr.rev]
/-- Who follows a node, and whom it follows. -/
def Gr.bothTo (g : Gr) (i : Nat) : RL := g.nextTo i ++ g.rev.nextTo i
theorem bothTo_len (g : Gr) (i : Nat) : (g.bothTo i).length = g.lat.length + g.lat.length := by
  unfold Gr.bothTo
  rw [List.length_append, nextTo_len, nextTo_len]; rfl
theorem bothTo_fst (g : Gr) (i : Nat) {v : Nat} (hv : v < g.lat.length) : (g.bothTo i).getD v [] = (g.nextTo i).getD v [] := by
  unfold Gr.bothTo
  simp [List.getD_eq_getElem?_getD, List.getElem?_append_left (by rw [nextTo_len]; exact hv : v < (g.nextTo i).length)]
theorem bothTo_snd (g : Gr) (i v : Nat) : (g.bothTo i).getD (g.lat.length + v) [] = (g.rev.nextTo i).getD v [] := by
  unfold Gr.bothTo
  have hl := nextTo_len g i
  simp only [List.getD_eq_getElem?_getD]
  rw [List.getElem?_append_right (by omega), hl, Nat.add_sub_cancel_left]
theorem bothTo_succ {g : Gr} (h : g.OK) {i : Nat} (hi : i < g.es.length) {e : Edg} (he : g.es.getD i default = e) :
    g.bothTo (i + 1) = ((g.bothTo i).set e.f.toNat ((g.bothTo i).getD e.f.toNat [] ++ [e.t])).set (g.lat.length + e.t.toNat) ((g.bothTo i).getD (g.lat.length + e.t.toNat) [] ++ [e.f]) := by
  obtain ⟨_, h1, h2, _, _⟩ := Gr.edge h hi
  rw [he] at h1 h2
  have hr := rev_at hi
  rw [he] at hr
  rw [bothTo_fst g i h1, bothTo_snd]
  have e1 : g.nextTo (i + 1) = (g.nextTo i).set e.f.toNat ((g.nextTo i).getD e.f.toNat [] ++ [e.t]) := by rw [← he]; rfl
  have e2 : g.rev.nextTo (i + 1) = (g.rev.nextTo i).set e.t.toNat ((g.rev.nextTo i).getD e.t.toNat [] ++ [e.f]) := by
    show (g.rev.nextTo i).set (g.rev.es.getD i default).f.toNat _ = _
    rw [hr]; rfl
  show g.nextTo (i + 1) ++ g.rev.nextTo (i + 1) = _
  rw [e1, e2]
  unfold Gr.bothTo
  have hl := nextTo_len g i
  rw [List.set_append_left _ _ (by omega), List.set_append_right _ _ (by rw [List.length_set]; omega), List.length_set, hl, Nat.add_sub_cancel_left]
/-- What Parts computes: the parts' numbers and members; in their order. -/
def Gr.partsA (g : Gr) : AS := colAll g.rev.next g.lat.length (leftTo g.next g.lat.length g.lat.length).2 g.lat.length
def Gr.partsO (g : Gr) : Option RL := g.arrP g.partsA.1 g.partsA.2

end Go.Proofs.Ytglokdfdogmmhaa

/- The parts of a graph: what the two searches find are the classes of nodes that reach each other. No program in sight. -/
namespace Go.Proofs.Ytglokdfdogmmhaa
set_option linter.unusedVariables false
set_option linter.unusedSimpArgs false

/-! What leads to a node. -/
structure CR (rows : List (List Int)) (c : Int) (F : Nat → Prop) (s s' : CS) : Prop where
  len : s'.1.length = s.1.length
  at_ : ∀ u, s'.1.getD u 0 = s.1.getD u 0 ∨ (s.1.getD u 0 = 0 ∧ s'.1.getD u 0 = c ∧ F u ∧ u < s.1.length)
  closed : ∀ u, s.1.getD u 0 = 0 → s'.1.getD u 0 ≠ 0 → ∀ t ∈ rows.getD u [], s'.1.getD t.toNat 0 ≠ 0
  nodes : ∃ L : List Int, s'.2 = s.2 ++ L ∧ L.Nodup ∧ ∀ x, x ∈ L ↔ ∃ u : Nat, x = (u : Int) ∧ s.1.getD u 0 = 0 ∧ s'.1.getD u 0 ≠ 0
theorem CR.refl {rows : List (List Int)} {c : Int} {F : Nat → Prop} (s : CS) : CR rows c F s s :=
  ⟨rfl, fun _ => .inl rfl, fun u h k => absurd h k, ⟨[], by simp, List.nodup_nil, fun x => ⟨fun h => (by cases h), fun ⟨u, _, h, k⟩ => absurd h k⟩⟩⟩
theorem CR.keep {rows : List (List Int)} {c : Int} {F : Nat → Prop} {s s' : CS} (h : CR rows c F s s') {u : Nat} (hu : s.1.getD u 0 ≠ 0) : s'.1.getD u 0 = s.1.getD u 0 := (h.at_ u).elim id fun k => absurd k.1 hu
theorem CR.trans {rows : List (List Int)} {c : Int} {F : Nat → Prop} {a b d : CS} (h : CR rows c F a b) (k : CR rows c F b d) : CR rows c F a d := by
  refine ⟨k.len.trans h.len, fun u => ?_, fun u hu hn t ht => ?_, ?_⟩
  · rcases h.at_ u with h1 | ⟨h1, h2, h3, h4⟩
    · rcases k.at_ u with k1 | ⟨k1, k2, k3, k4⟩
      · exact .inl (k1.trans h1)
      · exact .inr ⟨h1 ▸ k1, k2, k3, by rw [← h.len]; exact k4⟩
    · rcases k.at_ u with k1 | ⟨k1, k2, k3, k4⟩
      · exact .inr ⟨h1, k1.trans h2, h3, h4⟩
      · exact .inr ⟨h1, k2, k3, by rw [← h.len]; exact k4⟩
  · by_cases hb : b.1.getD u 0 = 0
    · exact k.closed u hb hn t ht
    · have h1 := h.closed u hu hb t ht
      rw [k.keep h1]; exact h1
  · obtain ⟨L, e1, n1, m1⟩ := h.nodes
    obtain ⟨K, e2, n2, m2⟩ := k.nodes
    refine ⟨L ++ K, by rw [e2, e1, List.append_assoc], List.nodup_append.2 ⟨n1, n2, fun x hx y hy e => ?_⟩, fun x => ?_⟩
    · subst e
      obtain ⟨u, rfl, _, h1⟩ := (m1 x).1 hx
      obtain ⟨v, hv, h2, _⟩ := (m2 _).1 hy
      have : u = v := by omega
      subst this
      exact h1 h2
    · rw [List.mem_append, m1, m2]
      constructor
      · rintro (⟨u, rfl, h1, h2⟩ | ⟨u, rfl, h1, h2⟩)
        · exact ⟨u, rfl, h1, by rw [k.keep h2]; exact h2⟩
        · refine ⟨u, rfl, ?_, h2⟩
          by_cases hx : a.1.getD u 0 = 0
          · exact hx
          · rw [h.keep hx] at h1; exact absurd h1 hx
      · rintro ⟨u, rfl, h1, h2⟩
        by_cases h3 : b.1.getD u 0 = 0
        · exact .inr ⟨u, rfl, h3, h2⟩
        · exact .inl ⟨u, rfl, h1, h3⟩
theorem CR.weaken {rows : List (List Int)} {c : Int} {F G : Nat → Prop} {a b : CS} (h : CR rows c F a b) (hf : ∀ u, F u → G u) : CR rows c G a b :=
  ⟨h.len, fun u => (h.at_ u).imp id fun ⟨x, y, z, w⟩ => ⟨x, y, hf u z, w⟩, h.closed, h.nodes⟩
theorem CR.free {rows : List (List Int)} {c : Int} (hc : c ≠ 0) {F : Nat → Prop} {a b : CS} (h : CR rows c F a b) : free0 b.1 ≤ free0 a.1 := by
  have key : ∀ (l m : List Int), l.length = m.length → (∀ u, l.getD u 0 ≠ 0 → m.getD u 0 ≠ 0) → free0 m ≤ free0 l := by
    intro l
    induction l with
    | nil => intro m hm _; cases m with
      | nil => exact Nat.le_refl _
      | cons _ _ => simp at hm
    | cons x l ih =>
      intro m hm hx
      cases m with
      | nil => simp at hm
      | cons y m =>
        have h1 := ih m (by simpa using hm) fun u hu => by simpa using hx (u + 1) (by simpa using hu)
        have h2 : x ≠ 0 → y ≠ 0 := fun e => by simpa using hx 0 (by simpa using e)
        simp only [free0]
        by_cases e1 : x = 0
        · rw [if_pos e1]; split <;> omega
        · rw [if_neg e1, if_neg (h2 e1)]; omega
  exact key _ _ h.len.symm fun u hu => by rw [h.keep hu]; exact hu
theorem colP_spec {rows : List (List Int)} {n : Nat} (hr : ∀ v, ∀ t ∈ rows.getD v [], 0 ≤ t ∧ t.toNat < n) {c : Int} (hc : c ≠ 0) {F : Nat → Nat → Prop} (hF : ∀ v, F v v) (hS : ∀ v, ∀ t ∈ rows.getD v [], ∀ u, F t.toNat u → F v u) :
    ∀ (k : Nat) (s : CS) (v : Nat), s.1.length = n → v < n → free0 s.1 ≤ k → s.1.getD v 0 = 0 → CR rows c (F v) s (colP rows c k s v) ∧ (colP rows c k s v).1.getD v 0 ≠ 0
  | 0, s, v, hl, hv, hk, hs => absurd hs (free0_none s.1 (by omega) v (by omega))
  | k + 1, s, v, hl, hv, hk, hs => by
    have e : colP rows c (k + 1) s v = (rows.getD v []).foldl (fun s t => if s.1.getD t.toNat 0 = 0 then colP rows c k s t.toNat else s) (s.1.set v c, s.2 ++ [(v : Int)]) := rfl
    have hu := free0_set s.1 v hc (by omega) hs
    rw [e]
    obtain ⟨s1, hs1⟩ : ∃ s1 : CS, (s.1.set v c, s.2 ++ [(v : Int)]) = s1 := ⟨_, rfl⟩
    have h1l : s1.1.length = n := by rw [← hs1]; simpa using hl
    have h1u : free0 s1.1 ≤ k := by rw [← hs1]; show free0 (s.1.set v c) ≤ k; omega
    have h1s : ∀ u, s1.1.getD u 0 = if v = u then c else s.1.getD u 0 := fun u => by
      rw [← hs1]; show (s.1.set v c).getD u 0 = _
      rw [getDI_set]
      by_cases e : v = u
      · rw [if_pos ⟨e, by omega⟩, if_pos e]
      · rw [if_neg (fun h => e h.1), if_neg e]
    rw [hs1]
    have key : ∀ (l : List Int) (a : CS), (∀ t ∈ l, t ∈ rows.getD v []) → a.1.length = n → free0 a.1 ≤ k →
        CR rows c (F v) a (l.foldl (fun s t => if s.1.getD t.toNat 0 = 0 then colP rows c k s t.toNat else s) a) ∧ ∀ t ∈ l, (l.foldl (fun s t => if s.1.getD t.toNat 0 = 0 then colP rows c k s t.toNat else s) a).1.getD t.toNat 0 ≠ 0 := by
      intro l
      induction l with
      | nil => intro a _ _ _; exact ⟨CR.refl a, fun t ht => by cases ht⟩
      | cons t l ih =>
        intro a ht ha hka
        have htm := ht t (by simp)
        have hone : CR rows c (F v) a (if a.1.getD t.toNat 0 = 0 then colP rows c k a t.toNat else a) ∧ (if a.1.getD t.toNat 0 = 0 then colP rows c k a t.toNat else a).1.getD t.toNat 0 ≠ 0 := by
          by_cases hs : a.1.getD t.toNat 0 = 0
          · rw [if_pos hs]
            obtain ⟨d1, d2⟩ := colP_spec hr hc hF hS k a t.toNat ha (hr v t htm).2 hka hs
            exact ⟨d1.weaken (hS v t htm), d2⟩
          · rw [if_neg hs]; exact ⟨CR.refl a, hs⟩
        rw [List.foldl_cons]
        generalize (if a.1.getD t.toNat 0 = 0 then colP rows c k a t.toNat else a) = b at hone ⊢
        obtain ⟨d1, d2⟩ := hone
        obtain ⟨d3, d4⟩ := ih b (fun t h => ht t (by simp [h])) (by rw [d1.len, ha]) (by have := d1.free hc; omega)
        refine ⟨d1.trans d3, fun x hx => ?_⟩
        rcases List.mem_cons.1 hx with rfl | hx
        · rw [d3.keep d2]; exact d2
        · exact d4 x hx
    obtain ⟨d, dt⟩ := key (rows.getD v []) s1 (fun t h => h) h1l h1u
    generalize (rows.getD v []).foldl (fun s t => if s.1.getD t.toNat 0 = 0 then colP rows c k s t.toNat else s) s1 = s' at d dt ⊢
    have hv1 : s1.1.getD v 0 = c := by rw [h1s, if_pos rfl]
    have hv' : s'.1.getD v 0 = c := by rw [d.keep (by rw [hv1]; exact hc), hv1]
    refine ⟨⟨by rw [d.len, h1l, hl], fun u => ?_, fun u hu hn t ht => ?_, ?_⟩, by rw [hv']; exact hc⟩
    · by_cases huv : v = u
      · subst huv; exact .inr ⟨hs, hv', hF v, by omega⟩
      · have h2 := h1s u
        rw [if_neg huv] at h2
        rcases d.at_ u with h1 | ⟨h1, h3, h4, h5⟩
        · exact .inl (h1.trans h2)
        · exact .inr ⟨h2 ▸ h1, h3, h4, by omega⟩
    · by_cases huv : v = u
      · subst huv; exact dt t ht
      · exact d.closed u (by rw [h1s, if_neg huv]; exact hu) hn t ht
    · obtain ⟨L, e1, n1, m1⟩ := d.nodes
      refine ⟨(v : Int) :: L, by rw [e1, ← hs1]; simp, List.nodup_cons.2 ⟨fun hm => ?_, n1⟩, fun x => ?_⟩
      · obtain ⟨u, hu, h2, _⟩ := (m1 _).1 hm
        have : v = u := by omega
        subst this
        rw [hv1] at h2; exact hc h2
      · rw [List.mem_cons, m1]
        constructor
        · rintro (rfl | ⟨u, rfl, h1, h2⟩)
          · exact ⟨v, rfl, hs, by rw [hv']; exact hc⟩
          · refine ⟨u, rfl, ?_, h2⟩
            rw [h1s] at h1
            split at h1
            · exact absurd h1 hc
            · exact h1
        · rintro ⟨u, rfl, h1, h2⟩
          by_cases huv : v = u
          · subst huv; exact .inl rfl
          · exact .inr ⟨u, rfl, by rw [h1s, if_neg huv]; exact h1, h2⟩

/-! The order in which nodes are left: what follows a node that has been left has been left, or reaches the last one. -/
def Gr.LeftK (g : Gr) (L : List Int) : Prop := ∀ i, i < L.length → ∀ e ∈ g.es, e.f ∈ L.take (i + 1) → e.t ∈ L.take (i + 1) ∨ g.Way e.t.toNat (L.getD i 0).toNat
theorem LeftK.push {g : Gr} {L : List Int} {v : Int} (h : g.LeftK L) (hl : ∀ e ∈ g.es, e.f ∈ L ++ [v] → e.t ∈ L ++ [v] ∨ g.Way e.t.toNat v.toNat) : g.LeftK (L ++ [v]) := by
  intro i hi e he hf
  rw [List.length_append, List.length_singleton] at hi
  by_cases h2 : i < L.length
  · rw [List.take_append_of_le_length (by omega)] at hf ⊢
    have : (L ++ [v]).getD i 0 = L.getD i 0 := by simp [List.getD_eq_getElem?_getD, List.getElem?_append_left h2]
    rw [this]
    exact h i h2 e he hf
  · have hi2 : i = L.length := by omega
    subst hi2
    rw [List.take_of_length_le (by simp)] at hf ⊢
    have : (L ++ [v]).getD L.length 0 = v := by simp [List.getD_eq_getElem?_getD]
    rw [this]
    exact hl e he hf
structure LK (g : Gr) (s : DS) : Prop where
  len : s.1.length = g.lat.length
  next : ∀ e ∈ g.es, e.f ∈ s.2 → seen s.1 e.t.toNat = true
  met : ∀ x ∈ s.2, 0 ≤ x
  left : g.LeftK s.2
theorem dfsP_left {g : Gr} (h : g.OK) : ∀ (k : Nat) (s : DS) (v : Nat), LK g s → v < g.lat.length → unseen s.1 ≤ k → seen s.1 v = false → (∀ u, seen s.1 u = true → (u : Int) ∈ s.2 ∨ g.Way u v) →
    LK g (dfsP g.next k s v) ∧ (∀ u, seen (dfsP g.next k s v).1 u = true → (u : Int) ∈ (dfsP g.next k s v).2 ∨ (seen s.1 u = true ∧ (u : Int) ∉ s.2)) ∧ (∀ x ∈ s.2, x ∈ (dfsP g.next k s v).2)
  | 0, s, v, hl, hv, hk, hs, hg => by rw [unseen_none s.1 (by omega) v (by rw [hl.len]; exact hv)] at hs; cases hs
  | k + 1, s, v, hl, hv, hk, hs, hg => by
    have e : dfsP g.next (k + 1) s v = (((g.next.getD v []).foldl (fun s t => if seen s.1 t.toNat = true then s else dfsP g.next k s t.toNat) (s.1.set v true, s.2)).1, ((g.next.getD v []).foldl (fun s t => if seen s.1 t.toNat = true then s else dfsP g.next k s t.toNat) (s.1.set v true, s.2)).2 ++ [(v : Int)]) := rfl
    have hvl : v < s.1.length := by rw [hl.len]; exact hv
    have hu := unseen_set s.1 v hvl hs
    rw [e]
    have h1s : ∀ u, seen (s.1.set v true) u = if v = u then true else seen s.1 u := fun u => seen_set hvl
    have key : ∀ (l : List Int) (a : DS), (∀ t ∈ l, t ∈ g.next.getD v []) → LK g a → unseen a.1 ≤ k → seen a.1 v = true → (∀ u, seen a.1 u = true → (u : Int) ∈ a.2 ∨ u = v ∨ (seen s.1 u = true ∧ (u : Int) ∉ s.2)) → (∀ x ∈ s.2, x ∈ a.2) →
        LK g (l.foldl (fun s t => if seen s.1 t.toNat = true then s else dfsP g.next k s t.toNat) a) ∧ (∀ t ∈ l, seen (l.foldl (fun s t => if seen s.1 t.toNat = true then s else dfsP g.next k s t.toNat) a).1 t.toNat = true) ∧
        (∀ u, seen a.1 u = true → seen (l.foldl (fun s t => if seen s.1 t.toNat = true then s else dfsP g.next k s t.toNat) a).1 u = true) ∧
        (∀ u, seen (l.foldl (fun s t => if seen s.1 t.toNat = true then s else dfsP g.next k s t.toNat) a).1 u = true → (u : Int) ∈ (l.foldl (fun s t => if seen s.1 t.toNat = true then s else dfsP g.next k s t.toNat) a).2 ∨ u = v ∨ (seen s.1 u = true ∧ (u : Int) ∉ s.2)) ∧
        (∀ x ∈ a.2, x ∈ (l.foldl (fun s t => if seen s.1 t.toNat = true then s else dfsP g.next k s t.toNat) a).2) := by
      intro l
      induction l with
      | nil => intro a _ ha _ _ hg _; exact ⟨ha, fun t ht => (by cases ht), fun u hu => hu, hg, fun x hx => hx⟩
      | cons t l ih =>
        intro a ht ha hka hav hga hsa
        have htm := ht t (by simp)
        obtain ⟨et, het, hef, rfl⟩ := (mem_next h).1 htm
        have htn := (next_ok h v _ htm).2
        rw [List.foldl_cons]
        by_cases hst : seen a.1 et.t.toNat = true
        · rw [if_pos hst]
          obtain ⟨i1, i2, i3, i4, i5⟩ := ih a (fun t h => ht t (by simp [h])) ha hka hav hga hsa
          refine ⟨i1, fun x hx => ?_, i3, i4, i5⟩
          rcases List.mem_cons.1 hx with rfl | hx
          · exact i3 _ hst
          · exact i2 x hx
        · rw [if_neg hst]
          have hsf : seen a.1 et.t.toNat = false := by simpa using hst
          have hgrey : ∀ u, seen a.1 u = true → (u : Int) ∈ a.2 ∨ g.Way u et.t.toNat := fun u hu => by
            rcases hga u hu with h1 | rfl | ⟨h1, h2⟩
            · exact .inl h1
            · exact .inr (.step het (hef ▸ .refl))
            · rcases hg u h1 with h3 | h3
              · exact absurd h3 h2
              · exact .inr (.step het (hef ▸ h3))
          obtain ⟨d1, d2, d3⟩ := dfsP_left h k a et.t.toNat ha htn hka hsf hgrey
          obtain ⟨dr, drt⟩ := dfsP_spec (next_ok h) (F := fun _ _ => True) (fun _ => trivial) (fun _ _ _ _ _ => trivial) k a et.t.toNat ha.len htn hka hsf
          have hb : ∀ u, seen (dfsP g.next k a et.t.toNat).1 u = true → (u : Int) ∈ (dfsP g.next k a et.t.toNat).2 ∨ u = v ∨ (seen s.1 u = true ∧ (u : Int) ∉ s.2) := fun u hu => by
            rcases d2 u hu with h1 | ⟨h1, h2⟩
            · exact .inl h1
            · rcases hga u h1 with h3 | h3
              · exact absurd h3 h2
              · exact .inr h3
          obtain ⟨i1, i2, i3, i4, i5⟩ := ih (dfsP g.next k a et.t.toNat) (fun t h => ht t (by simp [h])) d1 (by have := dr.unseen; omega) (dr.mono v hav) hb (fun x hx => d3 x (hsa x hx))
          refine ⟨i1, fun x hx => ?_, fun u hu => i3 u (dr.mono u hu), i4, fun x hx => i5 x (d3 x hx)⟩
          rcases List.mem_cons.1 hx with rfl | hx
          · exact i3 _ drt
          · exact i2 x hx
    have hs1 : LK g ((s.1.set v true, s.2) : DS) := ⟨by show (s.1.set v true).length = _; rw [List.length_set, hl.len], fun e he hf => by
      show seen (s.1.set v true) _ = true
      rw [h1s]; split
      · rfl
      · exact hl.next e he hf, hl.met, hl.left⟩
    obtain ⟨k1, k2, k3, k4, k5⟩ := key (g.next.getD v []) (s.1.set v true, s.2) (fun t h => h) hs1 (by show unseen (s.1.set v true) ≤ k; omega) (by show seen (s.1.set v true) v = true; rw [h1s, if_pos rfl]) (fun u hu => by
      have hu : seen (s.1.set v true) u = true := hu
      rw [h1s] at hu
      split at hu
      · rename_i e; exact .inr (.inl e.symm)
      · by_cases hm : (u : Int) ∈ s.2
        · exact .inl hm
        · exact .inr (.inr ⟨hu, hm⟩)) (fun x hx => hx)
    generalize (g.next.getD v []).foldl (fun s t => if seen s.1 t.toNat = true then s else dfsP g.next k s t.toNat) (s.1.set v true, s.2) = b at k1 k2 k3 k4 k5 ⊢
    have hnx : ∀ e ∈ g.es, e.f ∈ b.2 ++ [(v : Int)] → seen b.1 e.t.toNat = true := fun e he hf => by
      rcases List.mem_append.1 hf with hf | hf
      · exact k1.next e he hf
      · rw [List.mem_singleton] at hf
        exact k2 e.t ((mem_next h).2 ⟨e, he, by omega, rfl⟩)
    have hedge : ∀ e ∈ g.es, 0 ≤ e.t := fun e he => by
      obtain ⟨j, hj, rfl⟩ := List.mem_iff_getElem.1 he
      have := (Gr.edge h hj).2.2.2.2
      rwa [getD_lt _ _ hj] at this
    refine ⟨⟨k1.len, hnx, fun x hx => ?_, LeftK.push k1.left fun e he hf => ?_⟩, fun u hu => ?_, fun x hx => ?_⟩
    · rcases List.mem_append.1 hx with hx | hx
      · exact k1.met x hx
      · rw [List.mem_singleton] at hx; omega
    · have h1 := hnx e he hf
      have h0 := hedge e he
      rcases k4 _ h1 with h2 | h2 | ⟨h2, h3⟩
      · left; rw [List.mem_append]; left; rwa [show ((e.t.toNat : Nat) : Int) = e.t from by omega] at h2
      · left; rw [List.mem_append, List.mem_singleton]; right; omega
      · rcases hg _ h2 with h4 | h4
        · exact absurd h4 h3
        · right; simpa using h4
    · rcases k4 u hu with h2 | rfl | h2
      · exact .inl (by simp [h2])
      · exact .inl (by simp)
      · exact .inr h2
    · exact List.mem_append.2 (.inl (k5 x hx))
theorem leftTo_left {g : Gr} (h : g.OK) : ∀ i, i ≤ g.lat.length → LK g (leftTo g.next g.lat.length i) ∧ ∀ u, seen (leftTo g.next g.lat.length i).1 u = true → (u : Int) ∈ (leftTo g.next g.lat.length i).2
  | 0, _ => by
    have hF : ∀ u, seen (List.replicate g.lat.length false) u = false := fun u => by simp [seen, List.getD_eq_getElem?_getD, List.getElem?_replicate]; split <;> rfl
    exact ⟨⟨by simp [leftTo], fun e _ hf => (by simp [leftTo] at hf), fun x hx => (by simp [leftTo] at hx), fun i hi => (by simp [leftTo] at hi)⟩, fun u hu => by
      have hu : seen (List.replicate g.lat.length false) u = true := hu
      rw [hF] at hu; cases hu⟩
  | i + 1, hi => by
    obtain ⟨h1, h2⟩ := leftTo_left h i (by omega)
    obtain ⟨m1, m2⟩ := leftTo_more (next_ok h) i (by omega)
    rw [leftTo_succ]
    split
    · exact ⟨h1, h2⟩
    · rename_i hs
      have hs : seen (leftTo g.next g.lat.length i).1 i = false := by simpa using hs
      obtain ⟨d1, d2, _⟩ := dfsP_left h g.lat.length _ i h1 (by omega) (by omega) hs fun u hu => .inl (h2 u hu)
      refine ⟨d1, fun u hu => ?_⟩
      rcases d2 u hu with h3 | ⟨h3, h4⟩
      · exact h3
      · exact absurd (h2 u h3) h4

/-! The classes. -/
theorem rev_next {g : Gr} (h : g.OK) {v : Nat} {t : Int} : t ∈ g.rev.next.getD v [] ↔ ∃ e ∈ g.es, e.t.toNat = v ∧ e.f = t := by
  rw [mem_next (rev_ok h)]
  constructor
  · rintro ⟨e, he, h1, h2⟩
    obtain ⟨x, hx, rfl⟩ := List.mem_map.1 he
    exact ⟨x, hx, h1, h2⟩
  · rintro ⟨e, he, h1, h2⟩
    exact ⟨e.rev, List.mem_map.2 ⟨e, he, rfl⟩, h1, h2⟩
/-- The first edge that leads out of a set. -/
theorem Gr.Way.out {g : Gr} {S : Nat → Prop} {a b : Nat} (w : g.Way a b) (ha : S a) (hb : ¬ S b) : ∃ e ∈ g.es, S e.f.toNat ∧ ¬ S e.t.toNat ∧ g.Way a e.f.toNat ∧ g.Way e.t.toNat b := by
  induction w with
  | refl => exact absurd ha hb
  | step he hw ih =>
    rename_i e
    by_cases hs : S e.f.toNat
    · exact ⟨e, he, hs, hb, hw, .refl⟩
    · obtain ⟨x, hx, h1, h2, h3, h4⟩ := ih hs
      exact ⟨x, hx, h1, h2, h3, .step he h4⟩
abbrev Gr.Two (g : Gr) (a b : Nat) : Prop := g.Way a b ∧ g.Way b a
structure SccI (g : Gr) (s : AS) : Prop where
  len : s.1.length = g.lat.length
  bd : ∀ u, 0 ≤ s.1.getD u 0 ∧ s.1.getD u 0 ≤ (s.2.length : Int)
  rows : ∀ i, i < s.2.length → 0 < (s.2.getD i []).length ∧ (s.2.getD i []).Nodup ∧ ∀ x, x ∈ s.2.getD i [] ↔ ∃ u : Nat, x = (u : Int) ∧ u < g.lat.length ∧ s.1.getD u 0 = ((i + 1 : Nat) : Int)
  two : ∀ u v, u < g.lat.length → v < g.lat.length → s.1.getD u 0 ≠ 0 → (s.1.getD u 0 = s.1.getD v 0 ↔ g.Two u v)
theorem SccI.of_two {g : Gr} {s : AS} (h : SccI g s) {u v : Nat} (hu : u < g.lat.length) (hv : v < g.lat.length) (ht : g.Two u v) (h0 : s.1.getD u 0 = 0) : s.1.getD v 0 = 0 := by
  by_cases hx : s.1.getD v 0 = 0
  · exact hx
  · have := (h.two v u hv hu hx).2 ⟨ht.2, ht.1⟩
    rw [this]; exact h0
theorem getD_idx {l : List Int} {x : Int} (h : x ∈ l) : ∃ j, j < l.length ∧ l.getD j 0 = x := by
  obtain ⟨j, hj, rfl⟩ := List.mem_iff_getElem.1 h
  exact ⟨j, hj, getD_lt _ _ hj⟩
theorem mem_take_getD {l : List Int} {k : Nat} {x : Int} : x ∈ l.take k ↔ ∃ j, j < k ∧ j < l.length ∧ l.getD j 0 = x := by
  rw [List.mem_take_iff_getElem]
  constructor
  · rintro ⟨j, hj, rfl⟩
    exact ⟨j, by omega, by omega, getD_lt _ _ (by omega)⟩
  · rintro ⟨j, h1, h2, rfl⟩
    exact ⟨j, by omega, (getD_lt _ _ h2).symm⟩
theorem nodup_getD {l : List Int} (h : l.Nodup) {i j : Nat} (hi : i < l.length) (hj : j < l.length) (e : l.getD i 0 = l.getD j 0) : i = j := by
  rw [getD_lt _ _ hi, getD_lt _ _ hj] at e
  exact (List.getElem_inj h).1 e
theorem nodup_small : ∀ {n : Nat} {l : List Int}, l.Nodup → (∀ x ∈ l, 0 ≤ x ∧ x.toNat < n) → l.length ≤ n
  | 0, l, _, h => by
    cases l with
    | nil => exact Nat.le_refl _
    | cons x r => have := (h x (by simp)).2; omega
  | n + 1, l, hn, h => by
    have h1 : (l.erase (n : Int)).length + 1 ≥ l.length := by
      by_cases hm : (n : Int) ∈ l
      · rw [List.length_erase_of_mem hm]; omega
      · rw [List.erase_of_not_mem hm]; omega
    have := nodup_small (n := n) (hn.erase (n : Int)) fun x hx => by
      rw [hn.mem_erase_iff] at hx
      have := h x hx.2
      have h2 := hx.1
      exact ⟨this.1, by omega⟩
    omega
/-- Whoever reaches the last node that is free is reached from it. -/
theorem kos_back {g : Gr} (h : g.OK) {s : AS} (hs : SccI g s) {L : List Int} (hK : g.LeftK L) (hn : L.Nodup) (hm : ∀ x, x ∈ L ↔ ∃ u : Nat, x = (u : Int) ∧ u < g.lat.length) {iv : Nat} (hiv : iv < L.length)
    (hlate : ∀ j, iv < j → j < L.length → s.1.getD (L.getD j 0).toNat 0 ≠ 0) :
    ∀ (k iw : Nat), iw < L.length → L.length - iw ≤ k → s.1.getD (L.getD iw 0).toNat 0 = 0 → g.Way (L.getD iw 0).toNat (L.getD iv 0).toNat → g.Way (L.getD iv 0).toNat (L.getD iw 0).toNat
  | 0, iw, hi, hk, _, _ => by omega
  | k + 1, iw, hi, hk, h0, hw => by
    have hle : iw ≤ iv := by
      by_cases hx : iw ≤ iv
      · exact hx
      · exact absurd h0 (hlate iw (by omega) hi)
    by_cases heq : iw = iv
    · subst heq; exact .refl
    · have hnat : ∀ j, j < L.length → ∃ u : Nat, L.getD j 0 = (u : Int) ∧ u < g.lat.length := fun j hj => (hm _).1 (getD_in 0 hj)
      obtain ⟨e, he, h1, h2, h3, h4⟩ := Gr.Way.out (S := fun x => (x : Int) ∈ L.take (iw + 1)) hw (by
        show (((L.getD iw 0).toNat : Nat) : Int) ∈ L.take (iw + 1)
        obtain ⟨u, hu, _⟩ := hnat iw hi
        rw [mem_take_getD]; exact ⟨iw, by omega, hi, by rw [hu]; simp⟩) (fun hmem => by
        have hmem : (((L.getD iv 0).toNat : Nat) : Int) ∈ L.take (iw + 1) := hmem
        obtain ⟨u, hu, _⟩ := hnat iv hiv
        rw [mem_take_getD] at hmem
        obtain ⟨j, hj1, hj2, hj3⟩ := hmem
        have := nodup_getD hn hj2 hiv (by rw [hj3, hu]; simp)
        omega)
      obtain ⟨j, hj, rfl⟩ := List.mem_iff_getElem.1 he
      have heb := Gr.edge h hj
      rw [getD_lt _ _ hj] at heb
      have h1 : ((g.es[j].f.toNat : Nat) : Int) ∈ L.take (iw + 1) := h1
      have h2 : ¬ ((g.es[j].t.toNat : Nat) : Int) ∈ L.take (iw + 1) := h2
      rw [show ((g.es[j].f.toNat : Nat) : Int) = g.es[j].f from by omega] at h1
      rw [show ((g.es[j].t.toNat : Nat) : Int) = g.es[j].t from by omega] at h2
      have hback := (hK iw hi _ he h1).resolve_left h2
      obtain ⟨u, hu, hul⟩ := hnat iw hi
      have htw : g.Two (L.getD iw 0).toNat g.es[j].t.toNat := ⟨.step he h3, hback⟩
      have hz := hs.of_two (by rw [hu]; simpa using hul) heb.2.2.1 htw h0
      obtain ⟨jt, hjt, hjte⟩ := getD_idx ((hm g.es[j].t).2 ⟨g.es[j].t.toNat, by omega, heb.2.2.1⟩)
      have hlt : iw < jt := by
        by_cases hx : iw < jt
        · exact hx
        · exact absurd (mem_take_getD.2 ⟨jt, by omega, hjt, hjte⟩) h2
      have ih := kos_back h hs hK hn hm hiv hlate k jt hjt (by omega) (by rw [hjte]; exact hz) (by rw [hjte]; exact h4)
      rw [hjte] at ih
      exact ih.trans hback
theorem colStep_scc {g : Gr} (h : g.OK) {s : AS} (hs : SccI g s) {L : List Int} (hK : g.LeftK L) (hn : L.Nodup) (hm : ∀ x, x ∈ L ↔ ∃ u : Nat, x = (u : Int) ∧ u < g.lat.length) {iv : Nat} (hiv : iv < L.length)
    (hlate : ∀ j, iv < j → j < L.length → s.1.getD (L.getD j 0).toNat 0 ≠ 0) : SccI g (colStep g.rev.next g.lat.length s (L.getD iv 0)) ∧ ∀ j, iv ≤ j → j < L.length → (colStep g.rev.next g.lat.length s (L.getD iv 0)).1.getD (L.getD j 0).toNat 0 ≠ 0 := by
  obtain ⟨v, hv, hvn⟩ := (hm _).1 (getD_in 0 hiv)
  unfold colStep
  rw [hv]
  simp only [Int.toNat_natCast]
  by_cases h0 : s.1.getD v 0 = 0
  · rw [if_pos h0]
    obtain ⟨c, hc⟩ : ∃ c : Int, ((s.2.length + 1 : Nat) : Int) = c := ⟨_, rfl⟩
    have hc0 : c ≠ 0 := by omega
    rw [hc]
    obtain ⟨d, dv⟩ := colP_spec (next_ok (rev_ok h)) hc0 (F := fun v u => g.Way u v) (fun v => .refl) (fun a t ht u hu => by
      obtain ⟨e, he, h1, rfl⟩ := (rev_next h).1 ht
      rw [← h1]; exact .step he hu) g.lat.length (s.1, []) v hs.len hvn (by have := hs.len; show free0 s.1 ≤ _; rw [← hs.len]; exact (fun l : List Int => by
        induction l with
        | nil => exact Nat.le_refl _
        | cons x r ih => simp only [free0, List.length_cons]; split <;> omega : ∀ l : List Int, free0 l ≤ l.length) s.1) h0
    obtain ⟨s', hs'⟩ : ∃ s', colP g.rev.next c g.lat.length (s.1, []) v = s' := ⟨_, rfl⟩
    rw [hs'] at d dv ⊢
    have dlen : s'.1.length = s.1.length := d.len
    have dat : ∀ u, s'.1.getD u 0 = s.1.getD u 0 ∨ (s.1.getD u 0 = 0 ∧ s'.1.getD u 0 = c ∧ g.Way u v ∧ u < s.1.length) := d.at_
    have dkeep : ∀ {u}, s.1.getD u 0 ≠ 0 → s'.1.getD u 0 = s.1.getD u 0 := fun {u} hu => d.keep hu
    have dcl : ∀ u, s.1.getD u 0 = 0 → s'.1.getD u 0 ≠ 0 → ∀ t ∈ g.rev.next.getD u [], s'.1.getD t.toNat 0 ≠ 0 := d.closed
    obtain ⟨R, hR, nR, mR⟩ := d.nodes
    have hR : s'.2 = R := by rw [hR]; simp
    have mR : ∀ x, x ∈ R ↔ ∃ u : Nat, x = (u : Int) ∧ s.1.getD u 0 = 0 ∧ s'.1.getD u 0 ≠ 0 := mR
    -- who is new
    have hnew : ∀ u, u < g.lat.length → (s.1.getD u 0 = 0 ∧ s'.1.getD u 0 ≠ 0 ↔ g.Two u v) := fun u hu => by
      constructor
      · rintro ⟨a, b⟩
        rcases dat u with h1 | ⟨_, _, h3, _⟩
        · exact absurd (h1.trans a) b
        · obtain ⟨iu, hiu, hiue⟩ := getD_idx ((hm (u : Int)).2 ⟨u, rfl, hu⟩)
          have := kos_back h hs hK hn hm hiv hlate L.length iu hiu (by omega) (by rw [hiue]; simpa using a) (by rw [hiue, hv]; simpa using h3)
          rw [hiue, hv] at this
          exact ⟨h3, by simpa using this⟩
      · rintro ⟨a, b⟩
        have hz : ∀ x, x < g.lat.length → g.Two v x → s.1.getD x 0 = 0 := fun x hx ht => hs.of_two hvn hx ht h0
        refine ⟨hz u hu ⟨b, a⟩, ?_⟩
        -- backwards from v along the way
        by_cases hun : s'.1.getD u 0 = 0
        · obtain ⟨e, he, h1, h2, h3, h4⟩ := Gr.Way.out (S := fun x => s'.1.getD x 0 = 0) a hun (fun e => dv e)
          obtain ⟨j, hj, rfl⟩ := List.mem_iff_getElem.1 he
          have heb := Gr.edge h hj
          rw [getD_lt _ _ hj] at heb
          have htz : s.1.getD g.es[j].t.toNat 0 = 0 := hz _ heb.2.2.1 ⟨b.trans (.step he h3), h4⟩
          exact absurd h1 (dcl _ htz h2 g.es[j].f ((rev_next h).2 ⟨_, he, rfl, rfl⟩))
        · exact hun
    have hnc : ∀ u, u < g.lat.length → (s'.1.getD u 0 = c ↔ g.Two u v) := fun u hu => by
      constructor
      · intro e
        rcases dat u with h1 | ⟨h1, h2, h3, _⟩
        · have := (hs.bd u).2; omega
        · exact (hnew u hu).1 ⟨h1, by omega⟩
      · intro e
        obtain ⟨h1, h2⟩ := (hnew u hu).2 e
        rcases dat u with h3 | h3
        · exact absurd (h3.trans h1) h2
        · exact h3.2.1
    have h0' : ∀ u, g.lat.length ≤ u → s.1.getD u 0 = 0 := fun u hu => by simp [List.getD_eq_getElem?_getD, List.getElem?_eq_none (by rw [hs.len]; exact hu : s.1.length ≤ u)]
    refine ⟨⟨by show s'.1.length = _; rw [dlen, hs.len], fun u => ?_, fun i hi => ?_, fun u w hu hw hne => ?_⟩, fun j h1 h2 => ?_⟩
    · show 0 ≤ s'.1.getD u 0 ∧ s'.1.getD u 0 ≤ ((s.2 ++ [s'.2]).length : Int)
      have hb := hs.bd u
      rw [List.length_append, List.length_singleton]
      rcases dat u with h1 | ⟨_, h2, _⟩ <;> omega
    · show 0 < ((s.2 ++ [s'.2]).getD i []).length ∧ ((s.2 ++ [s'.2]).getD i []).Nodup ∧ ∀ x, x ∈ (s.2 ++ [s'.2]).getD i [] ↔ ∃ u : Nat, x = (u : Int) ∧ u < g.lat.length ∧ s'.1.getD u 0 = ((i + 1 : Nat) : Int)
      have hi : i < (s.2 ++ [s'.2]).length := hi
      rw [List.length_append, List.length_singleton] at hi
      by_cases hi2 : i < s.2.length
      · have e : (s.2 ++ [s'.2]).getD i [] = s.2.getD i [] := by simp [List.getD_eq_getElem?_getD, List.getElem?_append_left hi2]
        rw [e]
        obtain ⟨r1, r2, r3⟩ := hs.rows i hi2
        refine ⟨r1, r2, fun x => ?_⟩
        rw [r3]
        constructor
        · rintro ⟨u, rfl, hu, hp⟩
          exact ⟨u, rfl, hu, by rw [dkeep (by omega)]; exact hp⟩
        · rintro ⟨u, rfl, hu, hp⟩
          refine ⟨u, rfl, hu, ?_⟩
          rcases dat u with h1 | ⟨_, h2, _⟩
          · rw [← h1]; exact hp
          · omega
      · have hi3 : i = s.2.length := by omega
        subst hi3
        have e : (s.2 ++ [s'.2]).getD s.2.length [] = R := by simp [List.getD_eq_getElem?_getD, hR]
        rw [e]
        refine ⟨?_, nR, fun x => ?_⟩
        · have : (v : Int) ∈ R := (mR _).2 ⟨v, rfl, h0, dv⟩
          exact List.length_pos_of_mem this
        · rw [mR]
          constructor
          · rintro ⟨u, rfl, h1, h2⟩
            by_cases hu : u < g.lat.length
            · exact ⟨u, rfl, hu, by rw [hc]; exact (hnc u hu).2 ((hnew u hu).1 ⟨h1, h2⟩)⟩
            · rcases dat u with h3 | ⟨_, _, _, h4⟩
              · exact absurd (h3.trans h1) h2
              · rw [hs.len] at h4; exact absurd h4 hu
          · rintro ⟨u, rfl, hu, hp⟩
            obtain ⟨a, b⟩ := (hnew u hu).2 ((hnc u hu).1 (by rw [← hc]; exact hp))
            exact ⟨u, rfl, a, b⟩
    · have hne : s'.1.getD u 0 ≠ 0 := hne
      show s'.1.getD u 0 = s'.1.getD w 0 ↔ _
      by_cases hu0 : s.1.getD u 0 = 0
      · have htu := (hnew u hu).1 ⟨hu0, hne⟩
        rw [(hnc u hu).2 htu]
        constructor
        · intro e
          have := (hnc w hw).1 e.symm
          exact ⟨htu.1.trans this.2, this.1.trans htu.2⟩
        · intro e
          exact ((hnc w hw).2 ⟨e.2.trans htu.1, htu.2.trans e.1⟩).symm
      · rw [dkeep hu0]
        by_cases hw0 : s.1.getD w 0 = 0
        · constructor
          · intro e
            rcases dat w with h1 | ⟨_, h2, _⟩
            · rw [h1, hw0] at e; exact absurd e hu0
            · have := (hs.bd u).2; omega
          · intro e
            exact absurd ((hs.of_two hw hu ⟨e.2, e.1⟩ hw0)) hu0
        · rw [dkeep hw0]
          exact hs.two u w hu hw hu0
    · show s'.1.getD (L.getD j 0).toNat 0 ≠ 0
      by_cases hj : iv = j
      · subst hj; rw [hv]; simpa using dv
      · have := hlate j (by omega) h2
        rw [dkeep this]; exact this
  · rw [if_neg h0]
    refine ⟨hs, fun j h1 h2 => ?_⟩
    by_cases hj : iv = j
    · subst hj; rw [hv]; simpa using h0
    · exact hlate j (by omega) h2
/-- What is known of the parts. -/
structure Scc (g : Gr) (part : List Int) (all : RL) : Prop where
  len : part.length = g.lat.length
  bd : ∀ u, u < g.lat.length → 1 ≤ part.getD u 0 ∧ part.getD u 0 ≤ (all.length : Int)
  rows : ∀ i, i < all.length → 0 < (all.getD i []).length ∧ (all.getD i []).Nodup ∧ ∀ x, x ∈ all.getD i [] ↔ ∃ u : Nat, x = (u : Int) ∧ u < g.lat.length ∧ part.getD u 0 = ((i + 1 : Nat) : Int)
  two : ∀ u v, u < g.lat.length → v < g.lat.length → (part.getD u 0 = part.getD v 0 ↔ g.Two u v)
theorem partsA_scc {g : Gr} (h : g.OK) : Scc g g.partsA.1 g.partsA.2 ∧ g.partsA.2.length ≤ g.lat.length := by
  obtain ⟨L, hL⟩ : ∃ L, (leftTo g.next g.lat.length g.lat.length).2 = L := ⟨_, rfl⟩
  have hlen := left_len (next_ok h)
  obtain ⟨hnd, hmem⟩ := left_mem (next_ok h)
  have hK := (leftTo_left h g.lat.length (Nat.le_refl _)).1.left
  rw [hL] at hlen hnd hmem hK
  have e : g.partsA = colAll g.rev.next g.lat.length L L.length := by unfold Gr.partsA; rw [hL, hlen]
  have hmore := colAll_more (rows := g.rev.next) (n := g.lat.length) (next_ok (rev_ok h)) (l := L) (fun v hv => by
    obtain ⟨u, rfl, hu⟩ := (hmem v).1 hv
    exact ⟨by omega, by simpa using hu⟩) L.length (Nat.le_refl _)
  have key : ∀ m, m ≤ L.length → SccI g (colAll g.rev.next g.lat.length L m) ∧ ∀ j, L.length - m ≤ j → j < L.length → (colAll g.rev.next g.lat.length L m).1.getD (L.getD j 0).toNat 0 ≠ 0 := by
    intro m
    induction m with
    | zero =>
      intro _
      have hz : ∀ u, (List.replicate g.lat.length (0 : Int)).getD u 0 = 0 := fun u => by simp [List.getD_eq_getElem?_getD, List.getElem?_replicate]; split <;> rfl
      refine ⟨⟨by simp [colAll], fun u => ?_, fun i hi => (by simp [colAll] at hi), fun u v _ _ hne => absurd (hz u) hne⟩, fun j h1 h2 => by omega⟩
      show 0 ≤ (List.replicate g.lat.length (0 : Int)).getD u 0 ∧ (List.replicate g.lat.length (0 : Int)).getD u 0 ≤ 0
      rw [hz]; omega
    | succ m ih =>
      intro hm
      obtain ⟨i1, i2⟩ := ih (by omega)
      rw [colAll_succ _ _ (by omega)]
      obtain ⟨s1, s2⟩ := colStep_scc h i1 hK hnd hmem (iv := L.length - 1 - m) (by omega) (fun j h1 h2 => i2 j (by omega) h2)
      exact ⟨s1, fun j h1 h2 => s2 j (by omega) h2⟩
  obtain ⟨k1, k2⟩ := key L.length (Nat.le_refl _)
  rw [← e] at k1 k2 hmore
  have hne : ∀ u, u < g.lat.length → g.partsA.1.getD u 0 ≠ 0 := fun u hu => by
    obtain ⟨j, hj, hje⟩ := getD_idx ((hmem (u : Int)).2 ⟨u, rfl, hu⟩)
    have := k2 j (by omega) hj
    rw [hje] at this
    simpa using this
  refine ⟨⟨k1.len, fun u hu => ?_, k1.rows, fun u v hu hv => k1.two u v hu hv (hne u hu)⟩, by omega⟩
  have := k1.bd u
  have h2 := hne u hu
  omega

end Go.Proofs.Ytglokdfdogmmhaa

/- The parts in their order: the reference's way, and that the program's way is the same. No program in sight. -/
namespace Go.Proofs.Ytglokdfdogmmhaa
set_option linter.unusedVariables false
set_option linter.unusedSimpArgs false

/-! A least one. -/
theorem filter_lt {α : Type} {p q : α → Bool} : ∀ {l : List α} {x : α}, (∀ y ∈ l, p y = true → q y = true) → x ∈ l → q x = true → p x = false → (l.filter p).length < (l.filter q).length := by
  have mono : ∀ l : List α, (∀ y ∈ l, p y = true → q y = true) → (l.filter p).length ≤ (l.filter q).length := by
    intro l
    induction l with
    | nil => intro _; exact Nat.le_refl _
    | cons a l ih =>
      intro h
      have i := ih fun y hy => h y (by simp [hy])
      have ha := h a (by simp)
      cases hp : p a <;> cases hq : q a <;> simp_all <;> omega
  intro l
  induction l with
  | nil => intro x _ h; cases h
  | cons a l ih =>
    intro x h hx hq hp
    have hm := mono l fun y hy => h y (by simp [hy])
    have ha := h a (by simp)
    rcases List.mem_cons.1 hx with rfl | hx
    · simp [hq, hp]; omega
    · have i := ih (fun y hy => h y (by simp [hy])) hx hq hp
      cases hpa : p a <;> cases hqa : q a <;> simp_all <;> omega
open Classical in
theorem minimal {n : Nat} {R : Nat → Nat → Prop} (tr : ∀ a b c, R a b → R b c → R a c) (ir : ∀ a, ¬ R a a) {U : Nat → Prop} {u : Nat} (hu : u < n) (hU : U u) : ∃ m, m < n ∧ U m ∧ ∀ w, w < n → U w → ¬ R w m := by
  refine Classical.byContradiction fun hc => ?_
  have hx : ∀ m, m < n → U m → ∃ w, w < n ∧ U w ∧ R w m := fun m hm hUm => by
    refine Classical.byContradiction fun h => hc ⟨m, hm, hUm, fun w hw hUw hR => h ⟨w, hw, hUw, hR⟩⟩
  have key : ∀ (k u : Nat), u < n → U u → ((List.range n).filter fun x => decide (U x ∧ R x u)).length ≤ k → False := by
    intro k
    induction k with
    | zero =>
      intro u hu hU hk
      obtain ⟨w, hw, hUw, hR⟩ := hx u hu hU
      have : w ∈ (List.range n).filter fun x => decide (U x ∧ R x u) := by simp [hw, hUw, hR]
      have := List.length_pos_of_mem this
      omega
    | succ k ih =>
      intro u hu hU hk
      obtain ⟨w, hw, hUw, hR⟩ := hx u hu hU
      refine ih w hw hUw ?_
      have := filter_lt (p := fun x => decide (U x ∧ R x w)) (q := fun x => decide (U x ∧ R x u)) (l := List.range n) (x := w) (fun y hy h => by
        simp only [decide_eq_true_eq] at *
        exact ⟨h.1, tr _ _ _ h.2 hR⟩) (by simp [hw]) (by simp [hUw, hR]) (by simp [ir w])
      omega
  exact key _ u hu hU (Nat.le_refl _)

/-! The reference's way. -/
def Gr.rch (g : Gr) (v w : Nat) : Bool := seen (g.markR v g.lat.length) w
theorem rch_way {g : Gr} (h : g.OK) {v : Nat} (hv : v < g.lat.length) (w : Nat) : g.rch v w = true ↔ g.Way v w := markR_end h hv w
def Gr.heldR (g : Gr) (pl : List Bool) (v w : Nat) : Bool := g.rch w v && !g.rch v w && !seen pl w
def Gr.nextR (g : Gr) (pl : List Bool) (v : Nat) : Bool := (List.range g.lat.length).all fun w => !g.heldR pl v w
def Gr.candR (g : Gr) (pl : List Bool) (v : Nat) : Bool := !seen pl v && g.nextR pl v
def Gr.firstR (g : Gr) (pl : List Bool) : Option Nat := (List.range g.lat.length).find? (g.candR pl)
def Gr.mutR (g : Gr) (v w : Nat) : Bool := g.rch v w && g.rch w v
def Gr.partTo (g : Gr) (v i : Nat) : List Int := ((List.range i).filter (g.mutR v)).map fun w : Nat => (w : Int)
def Gr.plTo (g : Gr) (pl : List Bool) (v : Nat) : Nat → List Bool
  | 0 => pl
  | i + 1 => if g.mutR v i = true then (g.plTo pl v i).set i true else g.plTo pl v i
abbrev RS := List Bool × RL
def Gr.stepR (g : Gr) (s : RS) : RS := match g.firstR s.1 with
  | none => s
  | some v => (g.plTo s.1 v g.lat.length, s.2 ++ [g.partTo v g.lat.length])
def Gr.refTo (g : Gr) : Nat → RS
  | 0 => (List.replicate g.lat.length false, [])
  | k + 1 => g.stepR (g.refTo k)
def Gr.partsR (g : Gr) : RL := (g.refTo g.lat.length).2
theorem nextR_iff {g : Gr} (h : g.OK) {pl : List Bool} {v : Nat} (hv : v < g.lat.length) : g.nextR pl v = true ↔ ∀ w, w < g.lat.length → g.Way w v → ¬ g.Way v w → seen pl w = true := by
  unfold Gr.nextR
  rw [List.all_eq_true]
  constructor
  · intro hx w hw h1 h2
    have := hx w (by simpa using hw)
    unfold Gr.heldR at this
    rw [(rch_way h hw v).2 h1, show g.rch v w = false from by
      cases e : g.rch v w with
      | false => rfl
      | true => exact absurd ((rch_way h hv w).1 e) h2] at this
    simpa using this
  · intro hx w hw
    have hw : w < g.lat.length := by simpa using hw
    unfold Gr.heldR
    cases h1 : g.rch w v with
    | false => rfl
    | true =>
      cases h2 : g.rch v w with
      | true => simp
      | false =>
        rw [hx w hw ((rch_way h hw v).1 h1) fun e => by rw [(rch_way h hv w).2 e] at h2; cases h2]
        rfl
theorem mutR_iff {g : Gr} (h : g.OK) {v w : Nat} (hv : v < g.lat.length) (hw : w < g.lat.length) : g.mutR v w = true ↔ g.Two v w := by
  unfold Gr.mutR
  rw [Bool.and_eq_true, rch_way h hv, rch_way h hw]
theorem firstR_some {g : Gr} {pl : List Bool} {v : Nat} : g.firstR pl = some v ↔ v < g.lat.length ∧ (seen pl v = false ∧ g.nextR pl v = true) ∧ ∀ w, w < v → g.candR pl w = false := by
  unfold Gr.firstR
  rw [List.find?_range_eq_some]
  have e : g.candR pl v = true ↔ seen pl v = false ∧ g.nextR pl v = true := by unfold Gr.candR; rw [Bool.and_eq_true, Bool.not_eq_true']
  rw [e]
  constructor
  · rintro ⟨h1, h2, h3⟩; exact ⟨by simpa using h2, h1, fun w hw => by have := h3 w hw; cases e2 : g.candR pl w <;> simp_all⟩
  · rintro ⟨h1, h2, h3⟩; exact ⟨h2, by simpa using h1, fun w hw => by rw [h3 w hw]; rfl⟩
theorem firstR_none {g : Gr} {pl : List Bool} : g.firstR pl = none ↔ ∀ v, v < g.lat.length → g.candR pl v = false := by
  unfold Gr.firstR
  rw [List.find?_range_eq_none]
  exact ⟨fun h v hv => by simpa using h v hv, fun h v hv => by simpa using h v hv⟩
theorem plTo_len (g : Gr) (pl : List Bool) (v : Nat) : ∀ i, (g.plTo pl v i).length = pl.length
  | 0 => rfl
  | i + 1 => by
    unfold Gr.plTo
    split
    · rw [List.length_set, plTo_len g pl v i]
    · exact plTo_len g pl v i
theorem plTo_seen (g : Gr) (pl : List Bool) (v : Nat) : ∀ i, i ≤ pl.length → ∀ u, seen (g.plTo pl v i) u = true ↔ seen pl u = true ∨ (u < i ∧ g.mutR v u = true)
  | 0, _, u => ⟨.inl, fun h => h.elim id fun h => by omega⟩
  | i + 1, hi, u => by
    have ih := plTo_seen g pl v i (by omega) u
    unfold Gr.plTo
    by_cases hm : g.mutR v i = true
    · rw [if_pos hm, seen_set (by rw [plTo_len]; omega)]
      by_cases e : i = u
      · subst e; rw [if_pos rfl]; exact ⟨fun _ => .inr ⟨by omega, hm⟩, fun _ => rfl⟩
      · rw [if_neg e, ih]
        exact ⟨fun h => h.imp id fun h => ⟨by omega, h.2⟩, fun h => h.imp id fun h => ⟨by omega, h.2⟩⟩
    · rw [if_neg hm, ih]
      constructor
      · exact fun h => h.imp id fun h => ⟨by omega, h.2⟩
      · rintro (h | ⟨h1, h2⟩)
        · exact .inl h
        · refine .inr ⟨?_, h2⟩
          by_cases e : u = i
          · subst e; exact absurd h2 hm
          · omega
theorem partTo_succ (g : Gr) (v i : Nat) : g.partTo v (i + 1) = if g.mutR v i = true then g.partTo v i ++ [(i : Int)] else g.partTo v i := by
  unfold Gr.partTo
  rw [List.range_succ, List.filter_append, List.map_append]
  split
  · rename_i h; simp [h]
  · rename_i h
    have h : g.mutR v i = false := by simpa using h
    simp [h]
theorem partTo_len (g : Gr) (v i : Nat) : (g.partTo v i).length ≤ i := by
  unfold Gr.partTo
  rw [List.length_map]
  exact Nat.le_trans (List.length_filter_le _ _) (by simp)
theorem mem_partTo {g : Gr} {v i : Nat} {x : Int} : x ∈ g.partTo v i ↔ ∃ u : Nat, x = (u : Int) ∧ u < i ∧ g.mutR v u = true := by
  unfold Gr.partTo
  simp only [List.mem_map, List.mem_filter, List.mem_range]
  constructor
  · rintro ⟨u, ⟨h1, h2⟩, rfl⟩; exact ⟨u, rfl, h1, h2⟩
  · rintro ⟨u, rfl, h1, h2⟩; exact ⟨u, ⟨h1, h2⟩, rfl⟩
theorem partTo_lt (g : Gr) (v i : Nat) : (g.partTo v i).Pairwise (· < ·) := by
  unfold Gr.partTo
  rw [List.pairwise_map]
  refine List.Pairwise.imp (R := (· < ·)) (fun {a b} h => by omega) ?_
  exact List.Pairwise.filter _ (List.pairwise_lt_range)
theorem plTo_count {g : Gr} {pl : List Bool} {v : Nat} (hm : ∀ u, g.mutR v u = true → seen pl u = false) : ∀ i, i ≤ pl.length → unseen (g.plTo pl v i) + (g.partTo v i).length = unseen pl
  | 0, _ => by simp [Gr.plTo, Gr.partTo]
  | i + 1, hi => by
    have ih := plTo_count hm i (by omega)
    rw [partTo_succ]
    unfold Gr.plTo
    by_cases h : g.mutR v i = true
    · rw [if_pos h, if_pos h, List.length_append, List.length_singleton]
      have hs : seen (g.plTo pl v i) i = false := by
        cases e : seen (g.plTo pl v i) i with
        | false => rfl
        | true =>
          rcases (plTo_seen g pl v i (by omega) i).1 e with h1 | h1
          · rw [hm i h] at h1; cases h1
          · omega
      have := unseen_set (g.plTo pl v i) i (by rw [plTo_len]; omega) hs
      omega
    · rw [if_neg h, if_neg h]; exact ih
def total (l : RL) : Nat := (l.map List.length).sum
theorem total_push (l : RL) (r : List Int) : total (l ++ [r]) = total l + r.length := by simp [total]
theorem total_row : ∀ (l : RL) (i : Nat), (l.getD i []).length ≤ total l
  | [], i => by simp [total]
  | r :: l, 0 => by simp [total]
  | r :: l, i + 1 => by
    have := total_row l i
    simp [total] at *
    omega
structure RInv (g : Gr) (s : RS) : Prop where
  len : s.1.length = g.lat.length
  anc : ∀ u v, u < g.lat.length → v < g.lat.length → g.Way u v → seen s.1 v = true → seen s.1 u = true
  tot : unseen s.1 + total s.2 = g.lat.length
  mem : ∀ u, u < g.lat.length → (seen s.1 u = true ↔ ∃ r ∈ s.2, (u : Int) ∈ r)
theorem RInv.unseen_pos {g : Gr} {s : RS} (h : RInv g s) {u : Nat} (hu : u < g.lat.length) (hs : seen s.1 u = false) : 0 < unseen s.1 := by
  have := unseen_set s.1 u (by rw [h.len]; exact hu) hs
  omega
theorem RInv.more {g : Gr} (h : g.OK) {s : RS} (hs : RInv g s) (hp : 0 < unseen s.1) : ∃ v, g.firstR s.1 = some v := by
  obtain ⟨u, hu, hun⟩ : ∃ u, u < g.lat.length ∧ seen s.1 u = false := by
    refine Classical.byContradiction fun hc => ?_
    have : ∀ l : List Bool, (∀ v, v < l.length → seen l v = true) → unseen l = 0 := by
      intro l
      induction l with
      | nil => intro _; rfl
      | cons b r ih =>
        intro h
        have hb : b = true := by simpa [seen] using h 0 (by simp)
        have := ih fun v hv => by simpa [seen] using h (v + 1) (by simpa using hv)
        simp [unseen, hb, this]
    have := this s.1 fun v hv => by
      cases e : seen s.1 v with
      | true => rfl
      | false => exact absurd ⟨v, by rw [← hs.len]; exact hv, e⟩ hc
    omega
  obtain ⟨m, hm, hmU, hmin⟩ := minimal (n := g.lat.length) (R := fun a b => g.Way a b ∧ ¬ g.Way b a) (fun a b c h1 h2 => ⟨h1.1.trans h2.1, fun e => h2.2 (e.trans h1.1)⟩) (fun a h => h.2 h.1) (U := fun u => seen s.1 u = false) hu hun
  cases hf : g.firstR s.1 with
  | some v => exact ⟨v, rfl⟩
  | none =>
    have := firstR_none.1 hf m hm
    unfold Gr.candR at this
    rw [hmU, (nextR_iff h hm).2 fun w hw h1 h2 => by
      cases e : seen s.1 w with
      | true => rfl
      | false => exact absurd ⟨h1, h2⟩ (hmin w hw e)] at this
    cases this
theorem RInv.step {g : Gr} (h : g.OK) {s : RS} (hs : RInv g s) {v : Nat} (hf : g.firstR s.1 = some v) : g.stepR s = (g.plTo s.1 v g.lat.length, s.2 ++ [g.partTo v g.lat.length]) ∧ RInv g (g.stepR s) ∧ (v : Int) ∈ g.partTo v g.lat.length ∧ ∀ u, u < g.lat.length → g.Two v u → seen s.1 u = false := by
  obtain ⟨hv, ⟨hun, hnx⟩, _⟩ := firstR_some.1 hf
  have e : g.stepR s = (g.plTo s.1 v g.lat.length, s.2 ++ [g.partTo v g.lat.length]) := by unfold Gr.stepR; rw [hf]
  have hnew : ∀ u, u < g.lat.length → g.Two v u → seen s.1 u = false := fun u hu ht => by
    cases e : seen s.1 u with
    | false => rfl
    | true => rw [hs.anc v u hv hu ht.1 e] at hun; cases hun
  have hseen := plTo_seen g s.1 v g.lat.length (by rw [hs.len]; exact Nat.le_refl _)
  refine ⟨e, ?_, mem_partTo.2 ⟨v, rfl, hv, (mutR_iff h hv hv).2 ⟨.refl, .refl⟩⟩, hnew⟩
  rw [e]
  refine ⟨by show (g.plTo s.1 v g.lat.length).length = _; rw [plTo_len, hs.len], fun u x hu hx hw hsx => ?_, ?_, fun u hu => ?_⟩
  · have hsx : seen (g.plTo s.1 v g.lat.length) x = true := hsx
    show seen (g.plTo s.1 v g.lat.length) u = true
    rw [hseen] at hsx ⊢
    rcases hsx with h1 | ⟨_, h1⟩
    · exact .inl (hs.anc u x hu hx hw h1)
    · have ht := (mutR_iff h hv hx).1 h1
      have huv := hw.trans ht.2
      by_cases hvu : g.Way v u
      · exact .inr ⟨hu, (mutR_iff h hv hu).2 ⟨hvu, huv⟩⟩
      · exact .inl ((nextR_iff h hv).1 hnx u hu huv hvu)
  · show unseen (g.plTo s.1 v g.lat.length) + total (s.2 ++ [g.partTo v g.lat.length]) = _
    have hc := plTo_count (g := g) (pl := s.1) (v := v) (fun u hm => by
      by_cases hu : u < g.lat.length
      · exact hnew u hu ((mutR_iff h hv hu).1 hm)
      · cases e : seen s.1 u with
        | false => rfl
        | true => have := seen_lt e; rw [hs.len] at this; exact absurd this hu) g.lat.length (by rw [hs.len]; exact Nat.le_refl _)
    have := hs.tot
    rw [total_push]; omega
  · show seen (g.plTo s.1 v g.lat.length) u = true ↔ ∃ r ∈ s.2 ++ [g.partTo v g.lat.length], (u : Int) ∈ r
    rw [hseen, hs.mem u hu]
    constructor
    · rintro (⟨r, h1, h2⟩ | ⟨h1, h2⟩)
      · exact ⟨r, by simp [h1], h2⟩
      · exact ⟨_, by simp, mem_partTo.2 ⟨u, rfl, h1, h2⟩⟩
    · rintro ⟨r, h1, h2⟩
      rcases List.mem_append.1 h1 with h1 | h1
      · exact .inl ⟨r, h1, h2⟩
      · rw [List.mem_singleton] at h1; subst h1
        obtain ⟨x, hx, h3, h4⟩ := mem_partTo.1 h2
        have : u = x := by omega
        subst this
        exact .inr ⟨h3, h4⟩
theorem refTo_inv {g : Gr} (h : g.OK) : ∀ k, RInv g (g.refTo k)
  | 0 => by
    have hF : ∀ u, seen (List.replicate g.lat.length false) u = false := fun u => by simp [seen, List.getD_eq_getElem?_getD, List.getElem?_replicate]; split <;> rfl
    refine ⟨by simp [Gr.refTo], fun u v _ _ _ hv => ?_, ?_, fun u hu => ⟨fun hv => ?_, fun ⟨r, h1, _⟩ => by cases h1⟩⟩
    · have hv : seen (List.replicate g.lat.length false) v = true := hv
      rw [hF] at hv; cases hv
    · show unseen (List.replicate g.lat.length false) + 0 = _
      rw [unseen_replicate]; rfl
    · have hv : seen (List.replicate g.lat.length false) u = true := hv
      rw [hF] at hv; cases hv
  | k + 1 => by
    have ih := refTo_inv h k
    show RInv g (g.stepR (g.refTo k))
    cases hf : g.firstR (g.refTo k).1 with
    | none =>
      have : g.stepR (g.refTo k) = g.refTo k := by unfold Gr.stepR; rw [hf]
      rw [this]; exact ih
    | some v => exact (ih.step h hf).2.1
theorem refTo_done {g : Gr} (h : g.OK) {k : Nat} (hk : unseen (g.refTo k).1 = 0) : ∀ j, g.refTo (k + j) = g.refTo k
  | 0 => rfl
  | j + 1 => by
    show g.stepR (g.refTo (k + j)) = _
    rw [refTo_done h hk j]
    have : g.firstR (g.refTo k).1 = none := by
      cases hf : g.firstR (g.refTo k).1 with
      | none => rfl
      | some v =>
        obtain ⟨hv, ⟨hun, _⟩, _⟩ := firstR_some.1 hf
        have := (refTo_inv h k).unseen_pos hv hun
        omega
    unfold Gr.stepR; rw [this]
theorem refTo_few {g : Gr} (h : g.OK) : ∀ k, unseen (g.refTo k).1 + k ≤ g.lat.length ∨ unseen (g.refTo k).1 = 0
  | 0 => by have := (refTo_inv h 0).tot; left; omega
  | k + 1 => by
    rcases refTo_few h k with h1 | h1
    · by_cases h0 : unseen (g.refTo k).1 = 0
      · right; rw [refTo_done h h0 1]; exact h0
      · obtain ⟨v, hf⟩ := (refTo_inv h k).more h (by omega)
        obtain ⟨e, hi, hm, _⟩ := (refTo_inv h k).step h hf
        left
        have t1 := (refTo_inv h k).tot
        have t2 := hi.tot
        rw [e] at t2
        have t2 : unseen (g.plTo (g.refTo k).1 v g.lat.length) + total ((g.refTo k).2 ++ [g.partTo v g.lat.length]) = g.lat.length := t2
        rw [total_push] at t2
        have : 0 < (g.partTo v g.lat.length).length := List.length_pos_of_mem hm
        show unseen (g.stepR (g.refTo k)).1 + (k + 1) ≤ _
        rw [e]
        show unseen (g.plTo (g.refTo k).1 v g.lat.length) + (k + 1) ≤ _
        omega
    · right; rw [refTo_done h h1 1]; exact h1
theorem refTo_end {g : Gr} (h : g.OK) : unseen (g.refTo g.lat.length).1 = 0 := by
  rcases refTo_few h g.lat.length with h1 | h1 <;> omega
theorem refTo_stop {g : Gr} (h : g.OK) {k : Nat} (hk : unseen (g.refTo k).1 = 0) : (g.refTo k).2 = g.partsR := by
  have h1 := refTo_done h hk g.lat.length
  have h2 := refTo_done h (refTo_end h) k
  rw [Nat.add_comm] at h2
  rw [h1] at h2
  unfold Gr.partsR
  rw [h2]

/-! Insertion sort by heads. -/
theorem swapL_at {c : RL} {j : Nat} (h : j + 1 < c.length) (a : Nat) : (swapL c j).getD a [] = if a = j then c.getD (j + 1) [] else if a = j + 1 then c.getD j [] else c.getD a [] := by
  unfold swapL
  rw [getDL_set (by rw [List.length_set]; omega), getDL_set h]
  by_cases e : a = j
  · rw [if_pos e.symm, if_pos e]
  · rw [if_neg (fun x => e x.symm), if_neg e]
    by_cases e2 : a = j + 1
    · rw [if_pos e2.symm, if_pos e2]
    · rw [if_neg (fun x => e2 x.symm), if_neg e2]
theorem swapL_perm {c : RL} {j : Nat} (h : j + 1 < c.length) : (swapL c j).Perm c := by
  unfold swapL
  have e1 : c.getD j [] = c[j] := getD_lt _ _ (by omega)
  have e2 : c.getD (j + 1) [] = c[j + 1] := getD_lt _ _ h
  rw [e1, e2]
  exact List.set_set_perm h (by omega)
theorem sink_perm : ∀ (j : Nat) (c : RL), j < c.length → (sink c j).Perm c
  | 0, c, _ => List.Perm.refl _
  | j + 1, c, h => by
    unfold sink
    split
    · exact (sink_perm j (swapL c j) (by rw [swapL_len]; omega)).trans (swapL_perm h)
    · exact List.Perm.refl _
theorem insTo_perm (c : RL) : ∀ i, i < c.length → (insTo c i).Perm c
  | 0, _ => List.Perm.refl _
  | i + 1, h => (sink_perm (i + 1) _ (by rw [insTo_len]; exact h)).trans (insTo_perm c i (by omega))
theorem byHead_perm (c : RL) : (byHead c).Perm c := by
  by_cases h : c.length = 0
  · have := List.length_eq_zero_iff.1 h
    subst this; exact List.Perm.refl _
  · exact insTo_perm c _ (by omega)
abbrev H (c : RL) (a : Nat) : Int := hd (c.getD a [])
theorem sink_sorted {m : Nat} : ∀ (j : Nat) (c : RL), j ≤ m → m < c.length → (∀ a b, a < b → b ≤ m → a ≠ j → b ≠ j → H c a ≤ H c b) → (∀ b, j < b → b ≤ m → H c j ≤ H c b) → ∀ a b, a < b → b ≤ m → H (sink c j) a ≤ H (sink c j) b
  | 0, c, hj, hm, h1, h2, a, b, hab, hb => by
    show H c a ≤ H c b
    by_cases ha : a = 0
    · subst ha; exact h2 b hab hb
    · exact h1 a b hab hb ha (by omega)
  | j + 1, c, hj, hm, h1, h2, a, b, hab, hb => by
    unfold sink
    split
    · rename_i hlt
      have hs := swapL_at (c := c) (j := j) (by omega)
      have hA : ∀ a, H (swapL c j) a = if a = j then H c (j + 1) else if a = j + 1 then H c j else H c a := fun a => by
        unfold H; rw [hs]; split
        · rfl
        · split <;> rfl
      refine sink_sorted j (swapL c j) (by omega) (by rw [swapL_len]; exact hm) (fun a b hab hb ha hbj => ?_) (fun b hjb hb => ?_) a b hab hb
      · rw [hA, hA, if_neg ha, if_neg hbj]
        by_cases e1 : a = j + 1
        · rw [if_pos e1, if_neg (by omega)]; exact h1 j b (by omega) hb (by omega) (by omega)
        · rw [if_neg e1]
          by_cases e2 : b = j + 1
          · rw [if_pos e2]; exact h1 a j (by omega) (by omega) e1 (by omega)
          · rw [if_neg e2]; exact h1 a b hab hb e1 e2
      · rw [hA, hA, if_pos rfl, if_neg (by omega)]
        by_cases e2 : b = j + 1
        · rw [if_pos e2]
          have hlt : H c (j + 1) - H c j < 0 := hlt
          omega
        · rw [if_neg e2]; exact h2 b (by omega) hb
    · rename_i hge
      have hge : ¬ (H c (j + 1) - H c j < 0) := hge
      by_cases e1 : b = j + 1
      · subst e1
        by_cases e2 : a = j
        · subst e2; show H c a ≤ H c (a + 1); omega
        · have := h1 a j (by omega) (by omega) (by omega) (by omega)
          show H c a ≤ H c (j + 1); omega
      · by_cases e2 : a = j + 1
        · subst e2; exact h2 b hab hb
        · exact h1 a b hab hb e2 e1
theorem insTo_sorted (c : RL) : ∀ i, i < c.length → ∀ a b, a < b → b ≤ i → H (insTo c i) a ≤ H (insTo c i) b
  | 0, _, a, b, hab, hb => by omega
  | i + 1, h, a, b, hab, hb => by
    have ih := insTo_sorted c i (by omega)
    exact sink_sorted (m := i + 1) (i + 1) (insTo c i) (Nat.le_refl _) (by rw [insTo_len]; exact h) (fun a b hab hb ha hbj => ih a b hab (by omega)) (fun b h1 h2 => by omega) a b hab hb
theorem byHead_sorted (c : RL) {a b : Nat} (hab : a < b) (hb : b < c.length) : H (byHead c) a ≤ H (byHead c) b := insTo_sorted c (c.length - 1) (by omega) a b hab (by omega)

end Go.Proofs.Ytglokdfdogmmhaa

/- What arrange computes is what the reference computes. No program in sight. -/
namespace Go.Proofs.Ytglokdfdogmmhaa
set_option linter.unusedVariables false
set_option linter.unusedSimpArgs false

theorem sorted_ext {a b : List Int} (ha : a.Pairwise (· < ·)) (hb : b.Pairwise (· < ·)) (h : ∀ x, x ∈ a ↔ x ∈ b) : a = b := by
  have na : a.Nodup := ha.imp fun {x y} h => by omega
  have nb : b.Nodup := hb.imp fun {x y} h => by omega
  exact List.Perm.eq_of_pairwise (le := (· ≤ ·)) (fun x y _ _ h1 h2 => by omega) (ha.imp fun {x y} h => by omega) (hb.imp fun {x y} h => by omega) ((List.perm_ext_iff_of_nodup na nb).2 h)
theorem countP_split {l : List Edg} {a b c : Edg → Bool} : (∀ e ∈ l, a e = (b e || c e)) → (∀ e ∈ l, ¬ (b e = true ∧ c e = true)) → l.countP a = l.countP b + l.countP c := by
  induction l with
  | nil => intro _ _; rfl
  | cons e l ih =>
    intro h hd
    have i := ih (fun x hx => h x (by simp [hx])) (fun x hx => hd x (by simp [hx]))
    have h1 := h e (by simp)
    have h2 := hd e (by simp)
    simp only [List.countP_cons, i]
    cases hb : b e <;> cases hc : c e <;> simp_all <;> omega
/-- The number of the part that an edge comes from, that it leads to. -/
abbrev pf (part : List Int) (e : Edg) : Int := part.getD e.f.toNat 0
abbrev pt (part : List Int) (e : Edg) : Int := part.getD e.t.toNat 0
def wtE (part : List Int) (q : Nat) (e : Edg) : Bool := decide (pf part e ≠ pt part e) && decide ((pt part e).toNat = q)
def lsE (part : List Int) (p : Int) (q : Nat) (e : Edg) : Bool := decide (pf part e = p ∧ pt part e ≠ pf part e) && decide ((pt part e).toNat = q)
theorem wtE_iff {part : List Int} {q : Nat} {e : Edg} : wtE part q e = true ↔ pf part e ≠ pt part e ∧ (pt part e).toNat = q := by
  unfold wtE; rw [Bool.and_eq_true, decide_eq_true_eq, decide_eq_true_eq]
theorem lsE_iff {part : List Int} {p : Int} {q : Nat} {e : Edg} : lsE part p q e = true ↔ (pf part e = p ∧ pt part e ≠ pf part e) ∧ (pt part e).toNat = q := by
  unfold lsE; rw [Bool.and_eq_true, decide_eq_true_eq, decide_eq_true_eq]
theorem take_count {g : Gr} {Q : Edg → Bool} {i : Nat} (hi : i < g.es.length) : (g.es.take (i + 1)).countP Q = (g.es.take i).countP Q + if Q (g.es.getD i default) = true then 1 else 0 := by
  rw [List.take_add_one, List.getElem?_eq_getElem hi, List.countP_append, getD_lt _ _ hi]
  simp [List.countP_cons]
theorem waitTo_at {g : Gr} {part w : List Int} (hb : ∀ e ∈ g.es, (pt part e).toNat < w.length) (q : Nat) : ∀ i, i ≤ g.es.length → (g.waitTo part w i).getD q 0 = w.getD q 0 + ((g.es.take i).countP (wtE part q) : Int)
  | 0, _ => by simp [Gr.waitTo]
  | i + 1, hi => by
    have ih := waitTo_at hb q i (by omega)
    have hlt : i < g.es.length := by omega
    have hm : g.es.getD i default ∈ g.es := getD_in _ hlt
    have h1 := hb _ hm
    rw [take_count hlt]
    show (g.waitE part (g.waitTo part w i) i).getD q 0 = _
    unfold Gr.waitE
    generalize hx : g.es.getD i default = e at *
    show (if pf part e ≠ pt part e then _ else _ : List Int).getD q 0 = _
    by_cases hne : pf part e ≠ pt part e
    · rw [if_pos hne, getDI_set]
      by_cases hq : (pt part e).toNat = q
      · rw [if_pos ⟨hq, by rw [waitTo_len]; exact h1⟩, if_pos (wtE_iff.2 ⟨hne, hq⟩)]
        show (g.waitTo part w i).getD (pt part e).toNat 0 + 1 = _
        rw [hq, ih]; omega
      · rw [if_neg (fun h => hq h.1), if_neg (fun h => hq (wtE_iff.1 h).2), ih]; omega
    · rw [if_neg hne, if_neg (fun h => hne (wtE_iff.1 h).1), ih]; omega
theorem lessTo_at {g : Gr} {part w : List Int} {p : Int} (hb : ∀ e ∈ g.es, (pt part e).toNat < w.length) (q : Nat) : ∀ i, i ≤ g.es.length → (g.lessTo part p w i).getD q 0 = w.getD q 0 - ((g.es.take i).countP (lsE part p q) : Int)
  | 0, _ => by simp [Gr.lessTo]
  | i + 1, hi => by
    have ih := lessTo_at (p := p) hb q i (by omega)
    have hlt : i < g.es.length := by omega
    have hm : g.es.getD i default ∈ g.es := getD_in _ hlt
    have h1 := hb _ hm
    rw [take_count hlt]
    show (g.lessE part p (g.lessTo part p w i) i).getD q 0 = _
    unfold Gr.lessE
    generalize hx : g.es.getD i default = e at *
    show (if pf part e = p ∧ pt part e ≠ pf part e then _ else _ : List Int).getD q 0 = _
    by_cases hne : pf part e = p ∧ pt part e ≠ pf part e
    · rw [if_pos hne, getDI_set]
      by_cases hq : (pt part e).toNat = q
      · rw [if_pos ⟨hq, by rw [lessTo_len]; exact h1⟩, if_pos (lsE_iff.2 ⟨hne, hq⟩)]
        show (g.lessTo part p w i).getD (pt part e).toNat 0 - 1 = _
        rw [hq, ih]; omega
      · rw [if_neg (fun h => hq h.1), if_neg (fun h => hq (lsE_iff.1 h).2), ih]; omega
    · rw [if_neg hne, if_neg (fun h => hne (lsE_iff.1 h).1), ih]; omega

/-! The rows. -/
structure Row (g : Gr) (r : List Int) : Prop where
  hd : ∃ a : Nat, a < g.lat.length ∧ hd r = (a : Int) ∧ (a : Int) ∈ r ∧ (∀ x ∈ r, (a : Int) ≤ x) ∧ ∀ x, x ∈ r ↔ ∃ u : Nat, x = (u : Int) ∧ u < g.lat.length ∧ g.Two a u
  lt : r.Pairwise (· < ·)
theorem Row.eq {g : Gr} (h : g.OK) {r : List Int} (hr : Row g r) {v : Nat} (hv : v < g.lat.length) (ht : (v : Int) ∈ r) : r = g.partTo v g.lat.length := by
  obtain ⟨a, ha, _, _, _, hm⟩ := hr.hd
  refine sorted_ext hr.lt (partTo_lt g v _) fun x => ?_
  obtain ⟨v', hv', _, htw⟩ := (hm _).1 ht
  have : v = v' := by omega
  subst this
  rw [hm, mem_partTo]
  constructor
  · rintro ⟨u, rfl, hu, h1⟩
    exact ⟨u, rfl, hu, (mutR_iff h hv hu).2 ⟨htw.2.trans h1.1, h1.2.trans htw.1⟩⟩
  · rintro ⟨u, rfl, hu, h1⟩
    have h1 := (mutR_iff h hv hu).1 h1
    exact ⟨u, rfl, hu, htw.1.trans h1.1, h1.2.trans htw.2⟩
theorem scc_row {g : Gr} {part : List Int} {all : RL} (hs : Scc g part all) {r : List Int} (hr : r ∈ all.map isort) : Row g r := by
  obtain ⟨r0, h0, rfl⟩ := List.mem_map.1 hr
  obtain ⟨i, hi, rfl⟩ := List.mem_iff_getElem.1 h0
  obtain ⟨h1, h2, h3⟩ := hs.rows i hi
  rw [getD_lt _ _ hi] at h1 h2 h3
  have hmem : ∀ x, x ∈ isort all[i] ↔ x ∈ all[i] := fun x => (isort_perm _).mem_iff
  have hpos : 0 < (isort all[i]).length := by rw [isort_len]; exact h1
  have hsr := isort_sorted all[i]
  have hin : hd (isort all[i]) ∈ isort all[i] := getD_in 0 hpos
  obtain ⟨a, ha, han, hap⟩ := (h3 _).1 ((hmem _).1 hin)
  refine ⟨⟨a, han, ha, ha ▸ hin, fun x hx => ?_, fun x => ?_⟩, ?_⟩
  · rw [← ha]
    obtain ⟨j, hj, rfl⟩ := List.mem_iff_getElem.1 hx
    show (isort all[i]).getD 0 0 ≤ _
    rw [getD_lt _ _ hpos]
    by_cases e : j = 0
    · subst e; exact Int.le_refl _
    · exact List.pairwise_iff_getElem.1 hsr 0 j hpos hj (by omega)
  · rw [hmem, h3]
    constructor
    · rintro ⟨u, rfl, hu, hp⟩
      exact ⟨u, rfl, hu, (hs.two a u han hu).1 (by rw [hap, hp])⟩
    · rintro ⟨u, rfl, hu, ht⟩
      exact ⟨u, rfl, hu, by rw [← (hs.two a u han hu).2 ht]; exact hap⟩
  · have hnd : (isort all[i]).Nodup := (isort_perm _).nodup_iff.2 h2
    exact (hsr.and hnd).imp fun {x y} h => by have := h.2; have := h.1; omega
theorem scc_has {g : Gr} {part : List Int} {all : RL} (hs : Scc g part all) {u : Nat} (hu : u < g.lat.length) : ∃ r ∈ all.map isort, (u : Int) ∈ r := by
  have hb := hs.bd u hu
  obtain ⟨i, hi⟩ : ∃ i : Nat, part.getD u 0 = ((i + 1 : Nat) : Int) := ⟨(part.getD u 0).toNat - 1, by omega⟩
  have hil : i < all.length := by omega
  have := (hs.rows i hil).2.2 (u : Int)
  refine ⟨isort (all.getD i []), List.mem_map.2 ⟨_, getD_in [] hil, rfl⟩, (isort_perm _).mem_iff.2 (this.2 ⟨u, rfl, hu, hi⟩)⟩
theorem scc_nodup {g : Gr} {part : List Int} {all : RL} (hs : Scc g part all) : (all.map isort).Nodup := by
  rw [List.nodup_iff_pairwise_ne, List.pairwise_iff_getElem]
  intro i j hi hj hij e
  rw [List.length_map] at hi hj
  simp only [List.getElem_map] at e
  obtain ⟨h1, _, h3⟩ := hs.rows i hi
  obtain ⟨k1, _, k3⟩ := hs.rows j hj
  rw [getD_lt _ _ hi] at h1 h3
  rw [getD_lt _ _ hj] at k3
  have hx : all[i][0] ∈ all[i] := List.getElem_mem h1
  obtain ⟨u, hu, _, hp⟩ := (h3 _).1 hx
  have hx2 : all[i][0] ∈ all[j] := by
    rw [← (isort_perm all[j]).mem_iff, ← e, (isort_perm all[i]).mem_iff]; exact hx
  obtain ⟨v, hv, _, hp2⟩ := (k3 _).1 hx2
  have : u = v := by omega
  subst this
  omega

/-! Step by step. -/
structure AInv (g : Gr) (part : List Int) (all : RL) (s : AR) (t : RS) : Prop where
  o : s.o = t.2
  c : ∀ r, r ∈ s.c ↔ r ∈ all.map isort ∧ seen t.1 (hd r).toNat = false
  srt : s.c.Pairwise (fun a b => hd a ≤ hd b)
  nd : s.c.Nodup
  wl : s.w.length = all.length + 1
  w : ∀ q, s.w.getD q 0 = (g.es.countP (fun e => wtE part q e && !seen t.1 e.f.toNat) : Int)
theorem Gr.edgeM {g : Gr} (h : g.OK) {e : Edg} (he : e ∈ g.es) : 0 ≤ e.f ∧ e.f.toNat < g.lat.length ∧ 0 ≤ e.t ∧ e.t.toNat < g.lat.length := by
  obtain ⟨j, hj, rfl⟩ := List.mem_iff_getElem.1 he
  have := Gr.edge h hj
  rw [getD_lt _ _ hj] at this
  exact ⟨this.2.2.2.1, this.2.1, this.2.2.2.2, this.2.2.1⟩
theorem free_iff {g : Gr} (h : g.OK) {part : List Int} {all : RL} (hs : Scc g part all) {s : AR} {t : RS} (hi : AInv g part all s t) (ht : RInv g t) {a : Nat} {r : List Int} (ha : a < g.lat.length) (har : hd r = (a : Int)) : isFree part s.w r = true ↔ g.nextR t.1 a = true := by
  unfold isFree
  rw [decide_eq_true_eq, har, Int.toNat_natCast, hi.w]
  rw [nextR_iff h ha]
  have hz : ((g.es.countP (fun e => wtE part (part.getD a 0).toNat e && !seen t.1 e.f.toNat) : Nat) : Int) = 0 ↔ ∀ e ∈ g.es, ¬ (wtE part (part.getD a 0).toNat e && !seen t.1 e.f.toNat) = true := by
    rw [← List.countP_eq_zero]; omega
  rw [hz]
  have hwt : ∀ e ∈ g.es, (wtE part (part.getD a 0).toNat e = true ↔ g.Two a e.t.toNat ∧ ¬ g.Two a e.f.toNat) := fun e he => by
    obtain ⟨_, h1, _, h2⟩ := Gr.edgeM h he
    have b1 := hs.bd e.t.toNat h2
    have b2 := hs.bd a ha
    unfold wtE
    rw [Bool.and_eq_true, decide_eq_true_eq, decide_eq_true_eq, ← hs.two a e.t.toNat ha h2, ← hs.two a e.f.toNat ha h1]
    unfold pf pt
    omega
  constructor
  · intro hx w hw h1 h2
    cases e : seen t.1 w with
    | true => rfl
    | false =>
      obtain ⟨x, hx1, h3, h4, h5, h6⟩ := Gr.Way.out (S := fun u => ¬ g.Two a u) h1 (fun h => h2 h.1) (fun hn => hn ⟨.refl, .refl⟩)
      have h4 : g.Two a x.t.toNat := Classical.byContradiction h4
      have h7 := hx x hx1
      rw [Bool.and_eq_true, hwt x hx1] at h7
      have h8 : seen t.1 x.f.toNat = true := by
        cases e2 : seen t.1 x.f.toNat with
        | true => rfl
        | false => exact absurd ⟨⟨h4, h3⟩, by rw [e2]; rfl⟩ h7
      rw [ht.anc w x.f.toNat hw (Gr.edgeM h hx1).2.1 h5 h8] at e; cases e
  · intro hx x hx1 hb
    rw [Bool.and_eq_true, hwt x hx1] at hb
    obtain ⟨⟨h1, h2⟩, h3⟩ := hb
    have := hx x.f.toNat (Gr.edgeM h hx1).2.1 ((Gr.Way.step hx1 .refl).trans h1.2) (fun h4 => h2 ⟨h4, (Gr.Way.step hx1 .refl).trans h1.2⟩)
    rw [this] at h3; cases h3
theorem AInv.step {g : Gr} (h : g.OK) {part : List Int} {all : RL} (hs : Scc g part all) {s : AR} {t : RS} (hi : AInv g part all s t) (ht : RInv g t) {v : Nat} (hf : g.firstR t.1 = some v) :
    ∃ s', g.place part s = some s' ∧ AInv g part all s' (g.stepR t) ∧ s'.c.length + 1 = s.c.length := by
  obtain ⟨hv, ⟨hun, hnx⟩, hmin⟩ := firstR_some.1 hf
  obtain ⟨est, _, _, hnew⟩ := ht.step h hf
  obtain ⟨rv, hrv, hvr⟩ := scc_has hs hv
  obtain ⟨b, hb, hbr, hbm, hble, hbx⟩ := (scc_row hs hrv).hd
  obtain ⟨v', hv', _, htw⟩ := (hbx _).1 hvr
  have : v = v' := by omega
  subst this
  have hbun : seen t.1 b = false := by
    cases e : seen t.1 b with
    | false => rfl
    | true => rw [ht.anc v b hv hb htw.2 e] at hun; cases hun
  have hrc : rv ∈ s.c := (hi.c rv).2 ⟨hrv, by rw [hbr]; simpa using hbun⟩
  have hbnx : g.nextR t.1 b = true := (nextR_iff h hb).2 fun w hw h1 h2 => (nextR_iff h hv).1 hnx w hw (h1.trans htw.1) fun h3 => h2 (htw.1.trans h3)
  have hrfree := (free_iff h hs hi ht hb hbr).2 hbnx
  cases hff : firstFree part s.w s.c with
  | none => rw [firstFree_none part s.w hff rv hrc] at hrfree; cases hrfree
  | some i =>
    obtain ⟨h1, h2, h3⟩ := firstFree_some part s.w hff
    obtain ⟨r, hr⟩ : ∃ r, s.c.getD i [] = r := ⟨_, rfl⟩
    have hrm : r ∈ s.c := by rw [← hr]; exact getD_in [] h1
    obtain ⟨hrs, hrun⟩ := (hi.c r).1 hrm
    have hrow := scc_row hs hrs
    obtain ⟨a, ha, har, ham, hale, hax⟩ := hrow.hd
    rw [har, Int.toNat_natCast] at hrun
    rw [hr] at h2
    have hanx := (free_iff h hs hi ht ha har).1 h2
    have hav : a = v := by
      have hle : v ≤ a := by
        by_cases hlt : a < v
        · have := hmin a hlt
          unfold Gr.candR at this
          rw [hrun, hanx] at this; cases this
        · omega
      have hbv : (b : Int) ≤ (v : Int) := hble _ hvr
      obtain ⟨j, hj, hje⟩ := List.mem_iff_getElem.1 hrc
      have hij : i ≤ j := by
        by_cases hlt : j < i
        · have := h3 j hlt
          rw [getD_lt _ _ hj, hje, hrfree] at this; cases this
        · omega
      have hab : hd r ≤ hd rv := by
        by_cases e : i = j
        · subst e; rw [← hr, getD_lt _ _ h1, hje]; exact Int.le_refl _
        · have := List.pairwise_iff_getElem.1 hi.srt i j h1 hj (by omega)
          rw [hje] at this
          rw [← hr, getD_lt _ _ h1]; exact this
      rw [har, hbr] at hab
      omega
    subst hav
    have hre : r = g.partTo a g.lat.length := hrow.eq h ha ham
    refine ⟨⟨s.c.eraseIdx i, g.lessTo part (part.getD (hd r).toNat 0) s.w g.es.length, s.o ++ [r]⟩, by unfold Gr.place; rw [hff, ← hr]; rfl, ?_, by show (s.c.eraseIdx i).length + 1 = _; rw [List.length_eraseIdx, if_pos h1]; omega⟩
    rw [est]
    have hseen := plTo_seen g t.1 a g.lat.length (by rw [ht.len]; exact Nat.le_refl _)
    refine ⟨by show s.o ++ [r] = t.2 ++ [_]; rw [hi.o, hre], fun x => ?_, hi.srt.sublist (List.eraseIdx_sublist _ _), hi.nd.sublist (List.eraseIdx_sublist _ _), by show (g.lessTo part _ s.w g.es.length).length = _; rw [lessTo_len, hi.wl], fun q => ?_⟩
    · show x ∈ s.c.eraseIdx i ↔ x ∈ all.map isort ∧ seen (g.plTo t.1 a g.lat.length) (hd x).toNat = false
      have hmem : x ∈ s.c.eraseIdx i ↔ x ∈ s.c ∧ x ≠ r := by
        rw [List.mem_eraseIdx_iff_getElem]
        constructor
        · rintro ⟨j, hj, hji, rfl⟩
          refine ⟨List.getElem_mem hj, fun e => hji ?_⟩
          rw [← hr, getD_lt _ _ h1] at e
          exact (List.getElem_inj hi.nd).1 e
        · rintro ⟨hx, hne⟩
          obtain ⟨j, hj, rfl⟩ := List.mem_iff_getElem.1 hx
          exact ⟨j, hj, fun e => hne (by subst e; rw [← hr, getD_lt _ _ h1]), rfl⟩
      rw [hmem, hi.c]
      constructor
      · rintro ⟨⟨h4, h5⟩, h6⟩
        refine ⟨h4, ?_⟩
        obtain ⟨z, hz, hzr, hzm, _, _⟩ := (scc_row hs h4).hd
        rw [hzr, Int.toNat_natCast] at h5 ⊢
        cases e : seen (g.plTo t.1 a g.lat.length) z with
        | false => rfl
        | true =>
          rcases (hseen z).1 e with h7 | ⟨_, h7⟩
          · rw [h5] at h7; cases h7
          · have h8 := (mutR_iff h ha hz).1 h7
            refine absurd ?_ h6
            rw [(scc_row hs h4).eq h hz hzm]
            exact (hrow.eq h hz ((hax _).2 ⟨z, rfl, hz, h8⟩)).symm
      · rintro ⟨h4, h5⟩
        obtain ⟨z, hz, hzr, hzm, _, _⟩ := (scc_row hs h4).hd
        rw [hzr, Int.toNat_natCast] at h5 ⊢
        refine ⟨⟨h4, ?_⟩, fun e => ?_⟩
        · cases e : seen t.1 z with
          | false => rfl
          | true => rw [(hseen z).2 (.inl e)] at h5; cases h5
        · subst e
          have : z = a := by omega
          subst this
          rw [(hseen z).2 (.inr ⟨hz, (mutR_iff h hz hz).2 ⟨.refl, .refl⟩⟩)] at h5; cases h5
    · show (g.lessTo part (part.getD (hd r).toNat 0) s.w g.es.length).getD q 0 = ((g.es.countP fun e => wtE part q e && !seen (g.plTo t.1 a g.lat.length) e.f.toNat : Nat) : Int)
      rw [har, Int.toNat_natCast, lessTo_at (fun e he => by
        obtain ⟨_, _, _, h2⟩ := Gr.edgeM h he
        have := hs.bd _ h2
        rw [hi.wl]; unfold pt; omega) q _ (Nat.le_refl _), hi.w, List.take_length]
      have := countP_split (l := g.es) (a := fun e => wtE part q e && !seen t.1 e.f.toNat) (b := fun e => wtE part q e && !seen (g.plTo t.1 a g.lat.length) e.f.toNat) (c := lsE part (part.getD a 0) q) (fun e he => ?_) (fun e he hx => ?_)
      · rw [this]; omega
      · obtain ⟨_, h4, _, h5⟩ := Gr.edgeM h he
        have h6 := hs.two e.f.toNat a h4 ha
        by_cases hm : g.Two a e.f.toNat
        · have h7 : pf part e = part.getD a 0 := h6.2 ⟨hm.2, hm.1⟩
          have h8 : seen t.1 e.f.toNat = false := hnew _ h4 hm
          have h9 : seen (g.plTo t.1 a g.lat.length) e.f.toNat = true := (hseen _).2 (.inr ⟨h4, (mutR_iff h ha h4).2 hm⟩)
          show (wtE part q e && !seen t.1 e.f.toNat) = (wtE part q e && !seen (g.plTo t.1 a g.lat.length) e.f.toNat || lsE part (part.getD a 0) q e)
          rw [h8, h9]
          have h10 : wtE part q e = lsE part (part.getD a 0) q e := by
            rw [Bool.eq_iff_iff, wtE_iff, lsE_iff]
            exact ⟨fun x => ⟨⟨h7, fun e => x.1 e.symm⟩, x.2⟩, fun x => ⟨fun e => x.1.2 e.symm, x.2⟩⟩
          rw [h10]; simp
        · have h7 : pf part e ≠ part.getD a 0 := fun e => hm (by have := h6.1 e; exact ⟨this.2, this.1⟩)
          have h9 : seen (g.plTo t.1 a g.lat.length) e.f.toNat = seen t.1 e.f.toNat := by
            cases e1 : seen t.1 e.f.toNat with
            | true => exact (hseen _).2 (.inl e1)
            | false =>
              cases e2 : seen (g.plTo t.1 a g.lat.length) e.f.toNat with
              | false => rfl
              | true =>
                rcases (hseen _).1 e2 with h10 | ⟨_, h10⟩
                · rw [e1] at h10; cases h10
                · exact absurd ((mutR_iff h ha h4).1 h10) hm
          show (wtE part q e && !seen t.1 e.f.toNat) = (wtE part q e && !seen (g.plTo t.1 a g.lat.length) e.f.toNat || lsE part (part.getD a 0) q e)
          rw [h9]
          have h10 : lsE part (part.getD a 0) q e = false := by
            cases e3 : lsE part (part.getD a 0) q e with
            | false => rfl
            | true => exact absurd (lsE_iff.1 e3).1.1 h7
          rw [h10, Bool.or_false]
      · obtain ⟨_, h4, _, _⟩ := Gr.edgeM h he
        obtain ⟨hx1, hx2⟩ := hx
        simp only [Bool.and_eq_true, Bool.not_eq_true'] at hx1
        have h5 := (hs.two e.f.toNat a h4 ha).1 (lsE_iff.1 hx2).1.1
        rw [(hseen _).2 (.inr ⟨h4, (mutR_iff h ha h4).2 ⟨h5.2, h5.1⟩⟩)] at hx1
        cases hx1.2
theorem placeAll_eq {g : Gr} (h : g.OK) {part : List Int} {all : RL} (hs : Scc g part all) : ∀ (k : Nat) (s : AR) (j : Nat), AInv g part all s (g.refTo j) → s.c.length = k → (g.placeAll part k s).map (·.o) = some g.partsR
  | 0, s, j, hi, hk => by
    show some s.o = _
    rw [hi.o]
    congr 1
    refine refTo_stop h ?_
    refine Classical.byContradiction fun hne => ?_
    obtain ⟨v, hv⟩ := (refTo_inv h j).more h (by omega)
    obtain ⟨s', _, _, h3⟩ := hi.step h hs (refTo_inv h j) hv
    omega
  | k + 1, s, j, hi, hk => by
    have ht := refTo_inv h j
    have hp : 0 < unseen (g.refTo j).1 := by
      obtain ⟨r, hr⟩ : ∃ r, r ∈ s.c := ⟨s.c[0]'(by omega), List.getElem_mem _⟩
      obtain ⟨h1, h2⟩ := (hi.c r).1 hr
      obtain ⟨a, ha, har, _⟩ := (scc_row hs h1).hd
      rw [har, Int.toNat_natCast] at h2
      exact ht.unseen_pos ha h2
    obtain ⟨v, hv⟩ := ht.more h hp
    obtain ⟨s', h1, h2, h3⟩ := hi.step h hs ht hv
    show ((g.place part s).bind (g.placeAll part k)).map (·.o) = _
    rw [h1]
    exact placeAll_eq h hs k s' (j + 1) h2 (by omega)
theorem parts_eq {g : Gr} (h : g.OK) : g.partsO = some g.partsR := by
  obtain ⟨hs, _⟩ := partsA_scc h
  unfold Gr.partsO Gr.arrP
  generalize g.partsA.1 = part at hs ⊢
  generalize g.partsA.2 = all at hs ⊢
  have hF : ∀ u, seen (List.replicate g.lat.length false) u = false := fun u => by simp [seen, List.getD_eq_getElem?_getD, List.getElem?_replicate]; split <;> rfl
  have hl : (byHead (all.map isort)).length = all.length := by rw [(byHead_perm _).length_eq, List.length_map]
  have hz : ∀ q, (List.replicate (all.length + 1) (0 : Int)).getD q 0 = 0 := fun q => by simp [List.getD_eq_getElem?_getD, List.getElem?_replicate]; split <;> rfl
  refine placeAll_eq h hs all.length _ 0 ⟨rfl, fun r => ?_, ?_, (byHead_perm _).nodup_iff.2 (scc_nodup hs), ?_, fun q => ?_⟩ hl
  · show r ∈ byHead (all.map isort) ↔ r ∈ all.map isort ∧ seen (List.replicate g.lat.length false) (hd r).toNat = false
    rw [(byHead_perm _).mem_iff, hF]; exact ⟨fun h => ⟨h, rfl⟩, fun h => h.1⟩
  · show (byHead (all.map isort)).Pairwise fun a b => hd a ≤ hd b
    rw [List.pairwise_iff_getElem]
    intro i j hi hj hij
    have := byHead_sorted (all.map isort) hij (by rw [(byHead_perm _).length_eq] at hj; exact hj)
    unfold H at this
    rwa [getD_lt _ _ hi, getD_lt _ _ hj] at this
  · show (g.waitTo part (List.replicate (all.length + 1) 0) g.es.length).length = _
    rw [waitTo_len, List.length_replicate]
  · show (g.waitTo part (List.replicate (all.length + 1) 0) g.es.length).getD q 0 = ((g.es.countP fun e => wtE part q e && !seen (List.replicate g.lat.length false) e.f.toNat : Nat) : Int)
    rw [waitTo_at (fun e he => by
      obtain ⟨_, _, _, h2⟩ := Gr.edgeM h he
      have := hs.bd _ h2
      rw [List.length_replicate]; unfold pt; omega) q _ (Nat.le_refl _), hz, List.take_length, Int.zero_add]
    congr 1
    refine List.countP_congr fun e _ => ?_
    rw [hF]; simp

end Go.Proofs.Ytglokdfdogmmhaa

/- The order of the nodes for edges that do not delay. No program in sight. -/
namespace Go.Proofs.Ytglokdfdogmmhaa
set_option linter.unusedVariables false
set_option linter.unusedSimpArgs false

/-- An edge holds a node back. -/
def Gr.blkE (g : Gr) (dl : List Int) (pl : List Bool) (v i : Nat) : Bool := decide ((g.es.getD i default).t = (v : Int)) && (decide (dl.getD i 0 = 0) && !seen pl (g.es.getD i default).f.toNat)
def Gr.freeS (g : Gr) (dl : List Int) (pl : List Bool) (v : Nat) : Bool := (List.range g.es.length).all fun i => !g.blkE dl pl v i
def Gr.rdy (g : Gr) (dl : List Int) (pl : List Bool) (v : Nat) : Bool := !seen pl v && g.freeS dl pl v
def Gr.firstS (g : Gr) (dl : List Int) (pl : List Bool) : Option Nat := (List.range g.lat.length).find? fun v => g.rdy dl pl v
theorem freeS_of {g : Gr} {dl : List Int} {pl : List Bool} {v : Nat} (h : ∀ i, i < g.es.length → g.blkE dl pl v i = false) : g.freeS dl pl v = true := List.all_eq_true.2 fun i hi => by rw [h i (by simpa using hi)]; rfl
theorem freeS_not {g : Gr} {dl : List Int} {pl : List Bool} {v i : Nat} (hi : i < g.es.length) (h : g.blkE dl pl v i = true) : g.freeS dl pl v = false := List.all_eq_false.2 ⟨i, by simpa using hi, by rw [h]; simp⟩
theorem firstS_some {g : Gr} {dl : List Int} {pl : List Bool} {v : Nat} : g.firstS dl pl = some v ↔ v < g.lat.length ∧ g.rdy dl pl v = true ∧ ∀ w, w < v → g.rdy dl pl w = false := by
  unfold Gr.firstS
  rw [List.find?_range_eq_some]
  constructor
  · rintro ⟨h1, h2, h3⟩; exact ⟨by simpa using h2, h1, fun w hw => by simpa using h3 w hw⟩
  · rintro ⟨h1, h2, h3⟩; exact ⟨h2, by simpa using h1, fun w hw => by simpa using h3 w hw⟩
theorem firstS_none {g : Gr} {dl : List Int} {pl : List Bool} : g.firstS dl pl = none ↔ ∀ v, v < g.lat.length → g.rdy dl pl v = false := by
  unfold Gr.firstS
  rw [List.find?_range_eq_none]
  exact ⟨fun h v hv => by simpa using h v hv, fun h v hv => by simpa using h v hv⟩
def Gr.seqTo (g : Gr) (dl : List Int) : Nat → Option DS
  | 0 => some (List.replicate g.lat.length false, [])
  | i + 1 => (g.seqTo dl i).bind fun s => (g.firstS dl s.1).map fun v => (s.1.set v true, s.2 ++ [(v : Int)])
def Gr.seqO (g : Gr) (dl : List Int) : Option (List Int) := (g.seqTo dl g.lat.length).map (·.2)
def Gr.dlBad (g : Gr) (dl : List Int) : Bool := !decide (dl.length = g.es.length) || dl.any fun x => decide (x < 0)
theorem seqTo_none {g : Gr} {dl : List Int} {i : Nat} (h : g.seqTo dl i = none) : ∀ k, g.seqTo dl (i + k) = none
  | 0 => h
  | k + 1 => by
    show (g.seqTo dl (i + k)).bind _ = none
    rw [seqTo_none h k]; rfl
theorem seqTo_len {g : Gr} {dl : List Int} : ∀ {i : Nat} {s : DS}, g.seqTo dl i = some s → s.1.length = g.lat.length ∧ s.2.length = i
  | 0, s, h => by injection h with h; subst h; simp
  | i + 1, s, h => by
    have h : (g.seqTo dl i).bind (fun s => (g.firstS dl s.1).map fun v => (s.1.set v true, s.2 ++ [(v : Int)])) = some s := h
    cases h1 : g.seqTo dl i with
    | none => rw [h1] at h; cases h
    | some a =>
      rw [h1] at h
      have h : ((g.firstS dl a.1).map fun v => ((a.1.set v true, a.2 ++ [(v : Int)]) : DS)) = some s := h
      cases h2 : g.firstS dl a.1 with
      | none => rw [h2] at h; cases h
      | some v =>
        rw [h2] at h
        injection h with h
        subst h
        obtain ⟨i1, i2⟩ := seqTo_len h1
        exact ⟨by show (a.1.set v true).length = _; rw [List.length_set, i1], by show (a.2 ++ [(v : Int)]).length = _; rw [List.length_append, List.length_singleton, i2]⟩
theorem seqTo_step {g : Gr} {dl : List Int} {i : Nat} {s : DS} (h : g.seqTo dl i = some s) : g.seqTo dl (i + 1) = (g.firstS dl s.1).map fun v => (s.1.set v true, s.2 ++ [(v : Int)]) := by
  show (g.seqTo dl i).bind _ = _
  rw [h]; rfl
theorem dlBad_not {g : Gr} {dl : List Int} (h : g.dlBad dl = false) : dl.length = g.es.length ∧ ∀ x ∈ dl, 0 ≤ x := by
  unfold Gr.dlBad at h
  rw [Bool.or_eq_false_iff, Bool.not_eq_false', decide_eq_true_eq] at h
  refine ⟨h.1, fun x hx => ?_⟩
  have := List.any_eq_false.1 h.2 x hx
  simp only [decide_eq_true_eq] at this
  omega

end Go.Proofs.Ytglokdfdogmmhaa

/- Where the nodes are: facts on the order of the parts. No program in sight. -/
namespace Go.Proofs.Ytglokdfdogmmhaa
set_option linter.unusedVariables false
set_option linter.unusedSimpArgs false

structure Plc (n : Nat) (l : RL) : Prop where
  ne : ∀ i, i < l.length → 0 < (l.getD i []).length
  lt : ∀ i, i < l.length → (l.getD i []).Pairwise (· < ·)
  rng : ∀ i, i < l.length → ∀ x ∈ l.getD i [], 0 ≤ x ∧ x.toNat < n
  dis : ∀ i j, i < l.length → j < l.length → ∀ x, x ∈ l.getD i [] → x ∈ l.getD j [] → i = j
  tot : total l = n
def atRow (at_ : List Int) (i : Nat) (r : List Int) : Nat → List Int
  | 0 => at_
  | k + 1 => (atRow at_ i r k).set (r.getD k 0).toNat ((i : Int) + 1)
def atTo (n : Nat) (l : RL) : Nat → List Int
  | 0 => List.replicate n 0
  | i + 1 => atRow (atTo n l i) i (l.getD i []) (l.getD i []).length
theorem atRow_len (at_ : List Int) (i : Nat) (r : List Int) : ∀ k, (atRow at_ i r k).length = at_.length
  | 0 => rfl
  | k + 1 => by rw [atRow, List.length_set, atRow_len at_ i r k]
theorem atTo_len (n : Nat) (l : RL) : ∀ i, (atTo n l i).length = n
  | 0 => by simp [atTo]
  | i + 1 => by rw [atTo, atRow_len, atTo_len n l i]
theorem atRow_at {at_ : List Int} {i : Nat} {r : List Int} (hr : ∀ x ∈ r, 0 ≤ x ∧ x.toNat < at_.length) (u : Nat) : ∀ k, k ≤ r.length → (atRow at_ i r k).getD u 0 = if (u : Int) ∈ r.take k then (i : Int) + 1 else at_.getD u 0
  | 0, _ => by simp [atRow]
  | k + 1, hk => by
    have ih := atRow_at hr (i := i) u k (by omega)
    have hm : r.getD k 0 ∈ r := getD_in 0 (by omega)
    obtain ⟨h1, h2⟩ := hr _ hm
    have e : r.take (k + 1) = r.take k ++ [r.getD k 0] := by
      rw [List.take_add_one, List.getElem?_eq_getElem (by omega), getD_lt _ _ (by omega)]; rfl
    rw [atRow, getDI_set, e, atRow_len]
    by_cases hq : (r.getD k 0).toNat = u
    · rw [if_pos ⟨hq, h2⟩, if_pos (List.mem_append.2 (.inr (List.mem_singleton.2 (by omega))))]
    · rw [if_neg (fun h => hq h.1), ih]
      by_cases hx : (u : Int) ∈ r.take k
      · rw [if_pos hx, if_pos (List.mem_append.2 (.inl hx))]
      · rw [if_neg hx, if_neg]
        intro h
        rcases List.mem_append.1 h with h | h
        · exact hx h
        · rw [List.mem_singleton] at h; omega
theorem atTo_at {n : Nat} {l : RL} (h : Plc n l) {u : Nat} (hu : u < n) : ∀ i, i ≤ l.length → ((atTo n l i).getD u 0 = 0 ∧ ∀ j, j < i → (u : Int) ∉ l.getD j []) ∨ ∃ j, j < i ∧ (atTo n l i).getD u 0 = (j : Int) + 1 ∧ (u : Int) ∈ l.getD j []
  | 0, _ => .inl ⟨by simp [atTo, List.getD_eq_getElem?_getD, List.getElem?_replicate]; split <;> rfl, fun j hj => by omega⟩
  | i + 1, hi => by
    have ih := atTo_at h hu i (by omega)
    rw [atTo, atRow_at (fun x hx => by have := h.rng i (by omega) x hx; rw [atTo_len]; exact this) u _ (Nat.le_refl _), List.take_length]
    by_cases hx : (u : Int) ∈ l.getD i []
    · rw [if_pos hx]; exact .inr ⟨i, by omega, rfl, hx⟩
    · rw [if_neg hx]
      rcases ih with ⟨h1, h2⟩ | ⟨j, h1, h2, h3⟩
      · refine .inl ⟨h1, fun j hj => ?_⟩
        by_cases e : j = i
        · subst e; exact hx
        · exact h2 j (by omega)
      · exact .inr ⟨j, by omega, h2, h3⟩
theorem atL_at {n : Nat} {l : RL} (h : Plc n l) {u j : Nat} (hu : u < n) (hj : j < l.length) (hm : (u : Int) ∈ l.getD j []) : (atTo n l l.length).getD u 0 = (j : Int) + 1 := by
  rcases atTo_at h hu l.length (Nat.le_refl _) with ⟨_, h2⟩ | ⟨k, h1, h2, h3⟩
  · exact absurd hm (h2 j hj)
  · rw [h2, h.dis k j h1 hj _ h3 hm]
theorem total_take {l : RL} {i : Nat} (h : i < l.length) : total (l.take (i + 1)) = total (l.take i) + (l.getD i []).length := by
  rw [List.take_add_one, List.getElem?_eq_getElem h, getD_lt _ _ h]
  exact total_push _ _
theorem total_take_le (l : RL) (i : Nat) : total (l.take i) ≤ total l := by
  have : total l = total (l.take i) + total (l.drop i) := by
    unfold total
    rw [← List.sum_append, ← List.map_append, List.take_append_drop]
  omega
/-- What the check of an element finds. -/
theorem plc_new {n : Nat} {l : RL} (h : Plc n l) {i k : Nat} (hi : i < l.length) (hk : k < (l.getD i []).length) {v : Int} (hv : (l.getD i []).getD k 0 = v) : 0 ≤ v ∧ v.toNat < n ∧ (atRow (atTo n l i) i (l.getD i []) k).getD v.toNat 0 = 0 ∧ (0 < k → (l.getD i []).getD (k - 1) 0 < v) := by
  have hm : v ∈ l.getD i [] := by rw [← hv]; exact getD_in 0 hk
  obtain ⟨h1, h2⟩ := h.rng i hi v hm
  have hp := List.pairwise_iff_getElem.1 (h.lt i hi)
  refine ⟨h1, h2, ?_, fun h0 => ?_⟩
  · rw [atRow_at (fun x hx => by have := h.rng i hi x hx; rw [atTo_len]; exact this) _ _ (by omega), if_neg]
    · rcases atTo_at h h2 i (by omega) with ⟨h3, _⟩ | ⟨j, h3, h4, h5⟩
      · exact h3
      · rw [show ((v.toNat : Nat) : Int) = v from by omega] at h5
        have := h.dis j i (by omega) hi _ h5 hm
        omega
    · rw [show ((v.toNat : Nat) : Int) = v from by omega, mem_take_getD]
      rintro ⟨j, h3, h4, h5⟩
      have := hp j k h4 hk h3
      rw [getD_lt _ _ h4] at h5
      rw [getD_lt _ _ hk] at hv
      omega
  · have := hp (k - 1) k (by omega) hk (by omega)
    rw [getD_lt _ _ (by omega)]
    rw [getD_lt _ _ hk] at hv
    omega

/-! The parts. -/
theorem refTo_full {g : Gr} (h : g.OK) : ∀ k, 0 < unseen (g.refTo k).1 → (g.refTo k).2.length = k
  | 0, _ => rfl
  | k + 1, hp => by
    by_cases h0 : unseen (g.refTo k).1 = 0
    · have := refTo_done h h0 1
      rw [this] at hp; omega
    · obtain ⟨v, hv⟩ := (refTo_inv h k).more h (by omega)
      have e := ((refTo_inv h k).step h hv).1
      show (g.stepR (g.refTo k)).2.length = _
      rw [e]
      show ((g.refTo k).2 ++ [g.partTo v g.lat.length]).length = _
      rw [List.length_append, List.length_singleton, refTo_full h k (by omega)]
theorem refTo_pre {g : Gr} (k : Nat) : ∀ d, (g.refTo k).2 <+: (g.refTo (k + d)).2
  | 0 => List.prefix_refl _
  | d + 1 => by
    refine (refTo_pre k d).trans ?_
    show (g.refTo (k + d)).2 <+: (g.stepR (g.refTo (k + d))).2
    unfold Gr.stepR
    split
    · exact List.prefix_refl _
    · exact List.prefix_append _ _
theorem refTo_len {g : Gr} : ∀ k, (g.refTo k).2.length ≤ k
  | 0 => Nat.le_refl _
  | k + 1 => by
    have ih := refTo_len (g := g) k
    show (g.stepR (g.refTo k)).2.length ≤ k + 1
    unfold Gr.stepR
    split
    · omega
    · simp; omega
theorem partsR_at {g : Gr} (h : g.OK) {i : Nat} (hi : i < g.partsR.length) : ∃ v, v < g.lat.length ∧ g.firstR (g.refTo i).1 = some v ∧ g.partsR.getD i [] = g.partTo v g.lat.length ∧ ∀ u, u < g.lat.length → (seen (g.refTo i).1 u = true ↔ ∃ j, j < i ∧ (u : Int) ∈ g.partsR.getD j []) := by
  have hin : i < g.lat.length := Nat.lt_of_lt_of_le hi (refTo_len g.lat.length)
  have hpos : 0 < unseen (g.refTo i).1 := by
    refine Nat.pos_of_ne_zero fun h0 => ?_
    have := refTo_done h h0 (g.lat.length - i)
    rw [show i + (g.lat.length - i) = g.lat.length from by omega] at this
    have h2 := refTo_len (g := g) i
    unfold Gr.partsR at hi
    rw [this] at hi
    omega
  have hl := refTo_full h i hpos
  obtain ⟨v, hv⟩ := (refTo_inv h i).more h hpos
  have e := ((refTo_inv h i).step h hv).1
  have hpre : (g.refTo (i + 1)).2 <+: g.partsR := by
    have := refTo_pre (g := g) (i + 1) (g.lat.length - (i + 1))
    rwa [show i + 1 + (g.lat.length - (i + 1)) = g.lat.length from by omega] at this
  have e1 : (g.refTo (i + 1)).2 = (g.refTo i).2 ++ [g.partTo v g.lat.length] := by
    show (g.stepR (g.refTo i)).2 = _
    rw [e]
  rw [e1] at hpre
  obtain ⟨t, ht⟩ := hpre
  refine ⟨v, (firstR_some.1 hv).1, hv, ?_, fun u hu => ?_⟩
  · rw [← ht]
    simp [List.getD_eq_getElem?_getD, hl]
  · rw [(refTo_inv h i).mem u hu]
    have hj : ∀ j, j < i → g.partsR.getD j [] = (g.refTo i).2.getD j [] := fun j hj => by
      rw [← ht, List.append_assoc]
      simp only [List.getD_eq_getElem?_getD]
      rw [List.getElem?_append_left (by omega)]
    constructor
    · rintro ⟨r, h1, h2⟩
      obtain ⟨j, hj2, rfl⟩ := List.mem_iff_getElem.1 h1
      refine ⟨j, by omega, ?_⟩
      rw [hj j (by omega), getD_lt _ _ hj2]; exact h2
    · rintro ⟨j, h1, h2⟩
      rw [hj j h1] at h2
      exact ⟨_, getD_in [] (by omega), h2⟩
theorem partsR_mem {g : Gr} (h : g.OK) {i : Nat} (hi : i < g.partsR.length) : ∃ v, v < g.lat.length ∧ g.firstR (g.refTo i).1 = some v ∧ (∀ x, x ∈ g.partsR.getD i [] ↔ ∃ u : Nat, x = (u : Int) ∧ u < g.lat.length ∧ g.Two v u) ∧ (g.partsR.getD i []).Pairwise (· < ·) ∧ hd (g.partsR.getD i []) = (v : Int) := by
  obtain ⟨v, hv, hf, hp, _⟩ := partsR_at h hi
  obtain ⟨_, _, hm, hnew⟩ := (refTo_inv h i).step h hf
  obtain ⟨_, ⟨hun, hnx⟩, hmin⟩ := firstR_some.1 hf
  rw [hp]
  have hmem : ∀ x, x ∈ g.partTo v g.lat.length ↔ ∃ u : Nat, x = (u : Int) ∧ u < g.lat.length ∧ g.Two v u := fun x => by
    rw [mem_partTo]
    constructor
    · rintro ⟨u, rfl, h1, h2⟩; exact ⟨u, rfl, h1, (mutR_iff h hv h1).1 h2⟩
    · rintro ⟨u, rfl, h1, h2⟩; exact ⟨u, rfl, h1, (mutR_iff h hv h1).2 h2⟩
  have hpos := List.length_pos_of_mem hm
  refine ⟨v, hv, hf, hmem, partTo_lt g v _, ?_⟩
  obtain ⟨a, ha, han, hat⟩ := (hmem _).1 (getD_in 0 hpos)
  have hca : g.candR (g.refTo i).1 a = true := by
    unfold Gr.candR
    rw [hnew a han hat, (nextR_iff h han).2 fun w hw h1 h2 => (nextR_iff h hv).1 hnx w hw (h1.trans hat.2) fun h3 => h2 (hat.2.trans h3)]
    rfl
  have hle : v ≤ a := by
    by_cases hlt : a < v
    · rw [hmin a hlt] at hca; cases hca
    · omega
  obtain ⟨j, hj, hje⟩ := List.mem_iff_getElem.1 hm
  have : (g.partTo v g.lat.length).getD 0 0 ≤ (v : Int) := by
    rw [getD_lt _ _ hpos, ← hje]
    by_cases e : j = 0
    · subst e; exact Int.le_refl _
    · exact Int.le_of_lt (List.pairwise_iff_getElem.1 (partTo_lt g v g.lat.length) 0 j hpos hj (by omega))
  show (g.partTo v g.lat.length).getD 0 0 = _
  omega
theorem partsR_dis {g : Gr} (h : g.OK) {i j : Nat} (hi : i < g.partsR.length) (hj : j < g.partsR.length) {x : Int} (h1 : x ∈ g.partsR.getD i []) (h2 : x ∈ g.partsR.getD j []) : i = j := by
  have key : ∀ i j, i < j → i < g.partsR.length → j < g.partsR.length → x ∈ g.partsR.getD i [] → x ∈ g.partsR.getD j [] → False := fun i j hij hi hj h1 h2 => by
    obtain ⟨v, hv, hf, hp, hs⟩ := partsR_at h hj
    obtain ⟨v2, hv2, hf2, hm, _⟩ := partsR_mem h hj
    rw [hf] at hf2
    injection hf2 with hf2
    subst hf2
    obtain ⟨u, rfl, hu, ht⟩ := (hm _).1 h2
    have hnew := ((refTo_inv h j).step h hf).2.2.2 u hu ht
    rw [(hs u hu).2 ⟨i, hij, h1⟩] at hnew
    cases hnew
  rcases Nat.lt_trichotomy i j with h3 | h3 | h3
  · exact (key i j h3 hi hj h1 h2).elim
  · exact h3
  · exact (key j i h3 hj hi h2 h1).elim
theorem partsR_good {g : Gr} (h : g.OK) : Plc g.lat.length g.partsR := by
  refine ⟨fun i hi => ?_, fun i hi => ?_, fun i hi x hx => ?_, fun i j hi hj x h1 h2 => partsR_dis h hi hj h1 h2, ?_⟩
  · obtain ⟨v, hv, _, hm, _⟩ := partsR_mem h hi
    exact List.length_pos_of_mem ((hm _).2 ⟨v, rfl, hv, .refl, .refl⟩)
  · obtain ⟨v, hv, _, _, hm, _⟩ := partsR_mem h hi
    exact hm
  · obtain ⟨v, hv, _, hm, _⟩ := partsR_mem h hi
    obtain ⟨u, rfl, hu, _⟩ := (hm _).1 hx
    exact ⟨by omega, by simpa using hu⟩
  · have := (refTo_inv h g.lat.length).tot
    rw [refTo_end h] at this
    unfold Gr.partsR; omega
theorem partsR_has {g : Gr} (h : g.OK) {u : Nat} (hu : u < g.lat.length) : ∃ j, j < g.partsR.length ∧ (u : Int) ∈ g.partsR.getD j [] := by
  have hs : seen (g.refTo g.lat.length).1 u = true := by
    cases e : seen (g.refTo g.lat.length).1 u with
    | true => rfl
    | false =>
      have := (refTo_inv h g.lat.length).unseen_pos hu e
      rw [refTo_end h] at this; omega
  obtain ⟨r, h1, h2⟩ := ((refTo_inv h g.lat.length).mem u hu).1 hs
  obtain ⟨j, hj, rfl⟩ := List.mem_iff_getElem.1 h1
  exact ⟨j, hj, by show (u : Int) ∈ (g.refTo g.lat.length).2.getD j []; rw [getD_lt _ _ hj]; exact h2⟩
abbrev Gr.atP (g : Gr) : List Int := atTo g.lat.length g.partsR g.partsR.length
theorem atP_two {g : Gr} (h : g.OK) {u w : Nat} (hu : u < g.lat.length) (hw : w < g.lat.length) : g.atP.getD u 0 = g.atP.getD w 0 ↔ g.Two u w := by
  obtain ⟨j, hj, hju⟩ := partsR_has h hu
  obtain ⟨k, hk, hkw⟩ := partsR_has h hw
  rw [show g.atP.getD u 0 = _ from atL_at (partsR_good h) hu hj hju, show g.atP.getD w 0 = _ from atL_at (partsR_good h) hw hk hkw]
  obtain ⟨v, hv, _, hm, _⟩ := partsR_mem h hj
  obtain ⟨u', hu', _, htu⟩ := (hm _).1 hju
  have : u = u' := by omega
  subst this
  constructor
  · intro e
    have : j = k := by omega
    subst this
    obtain ⟨w', hw', _, htw⟩ := (hm _).1 hkw
    have : w = w' := by omega
    subst this
    exact ⟨htu.2.trans htw.1, htw.2.trans htu.1⟩
  · intro ht
    have := partsR_dis h hj hk ((hm _).2 ⟨w, rfl, hw, htu.1.trans ht.1, ht.2.trans htu.2⟩) hkw
    omega
/-- An edge that leads to a part comes from it, or from one ahead of it. -/
theorem atP_up {g : Gr} (h : g.OK) {e : Edg} (he : e ∈ g.es) : g.atP.getD e.f.toNat 0 ≤ g.atP.getD e.t.toNat 0 := by
  obtain ⟨j0, hj0, rfl⟩ := List.mem_iff_getElem.1 he
  have hb := Gr.edge h hj0
  rw [getD_lt _ _ hj0] at hb
  obtain ⟨_, hf, ht, _, _⟩ := hb
  generalize g.es[j0] = e at he hf ht ⊢
  obtain ⟨a, ha, haf⟩ := partsR_has h hf
  obtain ⟨b, hb, hbt⟩ := partsR_has h ht
  rw [show g.atP.getD e.f.toNat 0 = _ from atL_at (partsR_good h) hf ha haf, show g.atP.getD e.t.toNat 0 = _ from atL_at (partsR_good h) ht hb hbt]
  by_cases hab : a ≤ b
  · omega
  · obtain ⟨v, hv, hfi, hp, hs⟩ := partsR_at h hb
    obtain ⟨v2, _, hf2, hm, _⟩ := partsR_mem h hb
    rw [hfi] at hf2
    injection hf2 with hf2
    subst hf2
    obtain ⟨u, hu, _, htw⟩ := (hm _).1 hbt
    have : e.t.toNat = u := by omega
    rw [← this] at htw
    have hw : g.Way e.f.toNat v := (Gr.Way.step he .refl).trans htw.2
    by_cases hback : g.Way v e.f.toNat
    · have := partsR_dis h ha hb haf ((hm _).2 ⟨_, rfl, hf, hback, hw⟩)
      omega
    · have hsn := (nextR_iff h hv).1 (firstR_some.1 hfi).2.1.2 _ hf hw hback
      obtain ⟨j, hj, hjm⟩ := (hs _ hf).1 hsn
      have := partsR_dis h ha (by omega) haf hjm
      omega
/-- A part ahead of another one whose head is less: an edge leads from it, or from one between. -/
theorem atP_least {g : Gr} (h : g.OK) {i j : Nat} (hij : i < j) (hj : j < g.partsR.length) (hlt : hd (g.partsR.getD j []) < hd (g.partsR.getD i [])) :
    ∃ e ∈ g.es, g.atP.getD e.t.toNat 0 = (j : Int) + 1 ∧ (i : Int) + 1 ≤ g.atP.getD e.f.toNat 0 ∧ g.atP.getD e.f.toNat 0 < (j : Int) + 1 := by
  obtain ⟨vi, hvi, hfi, hpi, hsi⟩ := partsR_at h (i := i) (by omega)
  obtain ⟨vi2, _, hfi2, hmi, _, hhi⟩ := partsR_mem h (i := i) (by omega)
  rw [hfi] at hfi2; injection hfi2 with hfi2; subst hfi2
  obtain ⟨vj, hvj, hfj, hpj, hsj⟩ := partsR_at h hj
  obtain ⟨vj2, _, hfj2, hmj, _, hhj⟩ := partsR_mem h hj
  rw [hfj] at hfj2; injection hfj2 with hfj2; subst hfj2
  rw [hhi, hhj] at hlt
  have hcand := (firstR_some.1 hfi).2.2 vj (by omega)
  have hvjm : (vj : Int) ∈ g.partsR.getD j [] := (hmj _).2 ⟨vj, rfl, hvj, .refl, .refl⟩
  have hun : seen (g.refTo i).1 vj = false := by
    cases e : seen (g.refTo i).1 vj with
    | false => rfl
    | true =>
      obtain ⟨k, hk, hkm⟩ := (hsi vj hvj).1 e
      have := partsR_dis h (by omega) hj hkm hvjm
      omega
  have hnx : ¬ ∀ w, w < g.lat.length → g.Way w vj → ¬ g.Way vj w → seen (g.refTo i).1 w = true := fun hx => by
    unfold Gr.candR at hcand
    rw [hun, (nextR_iff h hvj).2 hx] at hcand
    cases hcand
  obtain ⟨w, hw, hw1, hw2, hw3⟩ : ∃ w, w < g.lat.length ∧ g.Way w vj ∧ ¬ g.Way vj w ∧ seen (g.refTo i).1 w = false := by
    refine Classical.byContradiction fun hc => hnx fun w hw h1 h2 => ?_
    cases e : seen (g.refTo i).1 w with
    | true => rfl
    | false => exact absurd ⟨w, hw, h1, h2, e⟩ hc
  obtain ⟨e, he, h3, h4, h5, _⟩ := Gr.Way.out (S := fun x => ¬ g.Two vj x) hw1 (fun ht => hw2 ht.1) (fun hn => hn ⟨.refl, .refl⟩)
  have h4 : g.Two vj e.t.toNat := Classical.byContradiction h4
  obtain ⟨j0, hj0, rfl⟩ := List.mem_iff_getElem.1 he
  have hb := Gr.edge h hj0
  rw [getD_lt _ _ hj0] at hb
  obtain ⟨_, hf, ht, _, _⟩ := hb
  refine ⟨_, he, ?_⟩
  generalize g.es[j0] = e at he hf ht h3 h4 h5 ⊢
  obtain ⟨a, ha, haf⟩ := partsR_has h hf
  rw [show g.atP.getD e.t.toNat 0 = _ from atL_at (partsR_good h) ht hj ((hmj _).2 ⟨_, rfl, ht, h4⟩), show g.atP.getD e.f.toNat 0 = _ from atL_at (partsR_good h) hf ha haf]
  have hwf : g.Way e.f.toNat vj := (Gr.Way.step he .refl).trans h4.2
  have hnb : ¬ g.Way vj e.f.toNat := fun hx => h3 ⟨hx, hwf⟩
  have hfu : seen (g.refTo i).1 e.f.toNat = false := by
    cases e2 : seen (g.refTo i).1 e.f.toNat with
    | false => rfl
    | true => rw [(refTo_inv h i).anc w _ hw hf h5 e2] at hw3; cases hw3
  have hai : i ≤ a := by
    by_cases hx : a < i
    · rw [(hsi _ hf).2 ⟨a, hx, haf⟩] at hfu; cases hfu
    · omega
  have hsn := (nextR_iff h hvj).1 (firstR_some.1 hfj).2.1.2 _ hf hwf hnb
  obtain ⟨k, hk, hkm⟩ := (hsj _ hf).1 hsn
  have := partsR_dis h ha (by omega) haf hkm
  omega

end Go.Proofs.Ytglokdfdogmmhaa

/- The order of the nodes: what it says of edges that do not delay; when there is none; no delays, all delays. No program in sight. -/
namespace Go.Proofs.Ytglokdfdogmmhaa
set_option linter.unusedVariables false
set_option linter.unusedSimpArgs false

/-! The nodes that have been placed. -/
structure SInv (g : Gr) (i : Nat) (s : DS) : Prop where
  len : s.1.length = g.lat.length
  cnt : s.2.length = i
  unn : unseen s.1 + i = g.lat.length
  mem : ∀ u, u < g.lat.length → (seen s.1 u = true ↔ (u : Int) ∈ s.2)
  rng : ∀ x ∈ s.2, ∃ u : Nat, x = (u : Int) ∧ u < g.lat.length
  nd : s.2.Nodup
theorem rdy_iff {g : Gr} {dl : List Int} {pl : List Bool} {v : Nat} : g.rdy dl pl v = true ↔ seen pl v = false ∧ ∀ i, i < g.es.length → (g.es.getD i default).t = (v : Int) → dl.getD i 0 = 0 → seen pl (g.es.getD i default).f.toNat = true := by
  unfold Gr.rdy Gr.freeS
  rw [Bool.and_eq_true, Bool.not_eq_true', List.all_eq_true]
  constructor
  · rintro ⟨h1, h2⟩
    refine ⟨h1, fun i hi ht hd => ?_⟩
    have := h2 i (by simpa using hi)
    unfold Gr.blkE at this
    rw [decide_eq_true ht, decide_eq_true hd] at this
    simpa using this
  · rintro ⟨h1, h2⟩
    refine ⟨h1, fun i hi => ?_⟩
    unfold Gr.blkE
    by_cases ht : (g.es.getD i default).t = (v : Int)
    · by_cases hd : dl.getD i 0 = 0
      · rw [h2 i (by simpa using hi) ht hd]; simp
      · rw [decide_eq_false hd]; simp
    · rw [decide_eq_false ht]; simp
theorem SInv.step {g : Gr} {i : Nat} {s : DS} (h : SInv g i s) {v : Nat} (hv : v < g.lat.length) (hs : seen s.1 v = false) : SInv g (i + 1) (s.1.set v true, s.2 ++ [(v : Int)]) := by
  have hvl : v < s.1.length := by rw [h.len]; exact hv
  have hu := unseen_set s.1 v hvl hs
  have hun := h.unn
  refine ⟨by show (s.1.set v true).length = _; rw [List.length_set, h.len], by show (s.2 ++ [(v : Int)]).length = _; rw [List.length_append, List.length_singleton, h.cnt], by show unseen (s.1.set v true) + (i + 1) = _; omega, fun u hu => ?_, fun x hx => ?_, ?_⟩
  · show seen (s.1.set v true) u = true ↔ (u : Int) ∈ s.2 ++ [(v : Int)]
    rw [seen_set hvl, List.mem_append, List.mem_singleton]
    by_cases e : v = u
    · subst e; simp
    · rw [if_neg e, h.mem u hu]
      exact ⟨.inl, fun h => h.elim id fun h => by omega⟩
  · rcases List.mem_append.1 hx with hx | hx
    · exact h.rng x hx
    · rw [List.mem_singleton] at hx; exact ⟨v, hx, hv⟩
  · show (s.2 ++ [(v : Int)]).Nodup
    refine List.nodup_append.2 ⟨h.nd, by simp, fun x hx y hy e => ?_⟩
    rw [List.mem_singleton] at hy
    subst hy; subst e
    rw [(h.mem v hv).2 hx] at hs; cases hs
theorem seqTo_inv {g : Gr} {dl : List Int} : ∀ {i : Nat} {s : DS}, g.seqTo dl i = some s → SInv g i s
  | 0, s, h => by
    have h : some ((List.replicate g.lat.length false, []) : DS) = some s := h
    injection h with h; subst h
    have hF : ∀ u, seen (List.replicate g.lat.length false) u = false := fun u => by simp [seen, List.getD_eq_getElem?_getD, List.getElem?_replicate]; split <;> rfl
    exact ⟨by simp, rfl, by show unseen (List.replicate g.lat.length false) + 0 = _; rw [unseen_replicate]; rfl, fun u _ => by
      show seen (List.replicate g.lat.length false) u = true ↔ (u : Int) ∈ ([] : List Int)
      rw [hF]; simp, fun x hx => (by cases hx), List.nodup_nil⟩
  | i + 1, s, h => by
    have h : (g.seqTo dl i).bind (fun s => (g.firstS dl s.1).map fun v => (s.1.set v true, s.2 ++ [(v : Int)])) = some s := h
    cases h1 : g.seqTo dl i with
    | none => rw [h1] at h; cases h
    | some a =>
      rw [h1] at h
      have h : ((g.firstS dl a.1).map fun v => ((a.1.set v true, a.2 ++ [(v : Int)]) : DS)) = some s := h
      cases h2 : g.firstS dl a.1 with
      | none => rw [h2] at h; cases h
      | some v =>
        rw [h2] at h
        injection h with h
        subst h
        obtain ⟨h3, h4, _⟩ := firstS_some.1 h2
        exact (seqTo_inv h1).step h3 (rdy_iff.1 h4).1
/-- Each step of a whole order. -/
theorem seqTo_back {g : Gr} {dl : List Int} : ∀ {n : Nat} {s : DS}, g.seqTo dl n = some s → ∀ i, i < n → ∃ a v, g.seqTo dl i = some a ∧ g.firstS dl a.1 = some v ∧ s.2.getD i 0 = (v : Int) ∧ a.2 = s.2.take i
  | 0, s, _, i, hi => by omega
  | n + 1, s, h, i, hi => by
    have hs := h
    have h : (g.seqTo dl n).bind (fun s => (g.firstS dl s.1).map fun v => (s.1.set v true, s.2 ++ [(v : Int)])) = some s := h
    cases h1 : g.seqTo dl n with
    | none => rw [h1] at h; cases h
    | some a =>
      rw [h1] at h
      have h : ((g.firstS dl a.1).map fun v => ((a.1.set v true, a.2 ++ [(v : Int)]) : DS)) = some s := h
      cases h2 : g.firstS dl a.1 with
      | none => rw [h2] at h; cases h
      | some v =>
        rw [h2] at h
        injection h with h
        subst h
        have hl := (seqTo_len h1).2
        by_cases e : i = n
        · subst e
          refine ⟨a, v, h1, h2, ?_, ?_⟩
          · show (a.2 ++ [(v : Int)]).getD i 0 = _
            simp [List.getD_eq_getElem?_getD, hl]
          · show a.2 = (a.2 ++ [(v : Int)]).take i
            rw [List.take_append_of_le_length (by omega), List.take_of_length_le (by omega)]
        · obtain ⟨b, w, e1, e2, e3, e4⟩ := seqTo_back h1 i (by omega)
          refine ⟨b, w, e1, e2, ?_, ?_⟩
          · show (a.2 ++ [(v : Int)]).getD i 0 = _
            rw [← e3]; simp [List.getD_eq_getElem?_getD, List.getElem?_append_left (by omega : i < a.2.length)]
          · show b.2 = (a.2 ++ [(v : Int)]).take i
            rw [List.take_append_of_le_length (by omega), e4]
abbrev oneEach (l : List Int) : RL := l.map fun x => [x]
theorem oneEach_at {l : List Int} {i : Nat} (h : i < l.length) : (oneEach l).getD i [] = [l.getD i 0] := by
  simp [List.getD_eq_getElem?_getD, h]
theorem oneEach_total (l : List Int) : total (oneEach l) = l.length := by
  induction l with
  | nil => rfl
  | cons x l ih => simp [total, oneEach] at *; omega
theorem oneEach_plc {n : Nat} {l : List Int} (hl : l.length = n) (hn : l.Nodup) (hr : ∀ x ∈ l, ∃ u : Nat, x = (u : Int) ∧ u < n) : Plc n (oneEach l) := by
  have hlen : (oneEach l).length = l.length := by simp
  refine ⟨fun i hi => ?_, fun i hi => ?_, fun i hi x hx => ?_, fun i j hi hj x h1 h2 => ?_, by rw [oneEach_total]; exact hl⟩
  · rw [oneEach_at (by omega)]; simp
  · rw [oneEach_at (by omega)]; simp
  · rw [oneEach_at (by omega), List.mem_singleton] at hx
    obtain ⟨u, hu, h⟩ := hr x (by rw [hx]; exact getD_in 0 (by omega))
    subst hu; exact ⟨by omega, by simpa using h⟩
  · rw [oneEach_at (by omega), List.mem_singleton] at h1
    rw [oneEach_at (by omega), List.mem_singleton] at h2
    exact nodup_getD hn (by omega) (by omega) (h1.symm.trans h2)
/-- A whole order. -/
structure Seqd (g : Gr) (dl : List Int) (l : List Int) : Prop where
  plc : Plc g.lat.length (oneEach l)
  len : l.length = g.lat.length
  has : ∀ u, u < g.lat.length → ∃ j, j < l.length ∧ l.getD j 0 = (u : Int)
  up : ∀ i, i < g.es.length → dl.getD i 0 = 0 → ∀ a b, a < l.length → b < l.length → l.getD a 0 = (g.es.getD i default).f → l.getD b 0 = (g.es.getD i default).t → a < b
  least : ∀ i j, i < j → j < l.length → l.getD j 0 < l.getD i 0 → ∃ k a, k < g.es.length ∧ dl.getD k 0 = 0 ∧ (g.es.getD k default).t = l.getD j 0 ∧ a < l.length ∧ l.getD a 0 = (g.es.getD k default).f ∧ i ≤ a ∧ a < j
theorem seq_seqd {g : Gr} (h : g.OK) {dl : List Int} {s : DS} (hs : g.seqTo dl g.lat.length = some s) : Seqd g dl s.2 := by
  have hI := seqTo_inv hs
  have hlen : s.2.length = g.lat.length := hI.cnt
  have hall : ∀ u, u < g.lat.length → (u : Int) ∈ s.2 := fun u hu => by
    rw [← hI.mem u hu]
    have h0 : unseen s.1 = 0 := by have := hI.unn; omega
    exact unseen_none s.1 h0 u (by rw [hI.len]; exact hu)
  have hhas : ∀ u, u < g.lat.length → ∃ j, j < s.2.length ∧ s.2.getD j 0 = (u : Int) := fun u hu => getD_idx (hall u hu)
  have hedge : ∀ k, k < g.es.length → 0 ≤ (g.es.getD k default).f ∧ (g.es.getD k default).f.toNat < g.lat.length ∧ 0 ≤ (g.es.getD k default).t ∧ (g.es.getD k default).t.toNat < g.lat.length := fun k hk => by
    obtain ⟨_, h1, h2, h3, h4⟩ := Gr.edge h hk
    exact ⟨h3, h1, h4, h2⟩
  -- when a step is taken, what has been placed
  have hstep : ∀ i, i < g.lat.length → ∃ a : DS, ∃ v, g.firstS dl a.1 = some v ∧ s.2.getD i 0 = (v : Int) ∧ v < g.lat.length ∧ ∀ u, u < g.lat.length → (seen a.1 u = true ↔ ∃ j, j < i ∧ s.2.getD j 0 = (u : Int)) := fun i hi => by
    obtain ⟨a, v, e1, e2, e3, e4⟩ := seqTo_back hs i hi
    refine ⟨a, v, e2, e3, (firstS_some.1 e2).1, fun u hu => ?_⟩
    rw [(seqTo_inv e1).mem u hu, e4, mem_take_getD]
    exact ⟨fun ⟨j, h1, _, h3⟩ => ⟨j, h1, h3⟩, fun ⟨j, h1, h3⟩ => ⟨j, h1, by omega, h3⟩⟩
  have hup : ∀ i, i < g.es.length → dl.getD i 0 = 0 → ∀ a b, a < s.2.length → b < s.2.length → s.2.getD a 0 = (g.es.getD i default).f → s.2.getD b 0 = (g.es.getD i default).t → a < b := fun i hi hd a b ha hb hf ht => by
    obtain ⟨q, v, e1, e2, e3, e4⟩ := hstep b (by omega)
    have hrd := (rdy_iff.1 (firstS_some.1 e1).2.1).2 i hi (by rw [← ht, e2]) hd
    have he := hedge i hi
    obtain ⟨j, hj, hje⟩ := (e4 _ he.2.1).1 hrd
    have := nodup_getD hI.nd (i := a) (j := j) ha (by omega) (by rw [hf, hje]; omega)
    omega
  refine ⟨oneEach_plc hlen hI.nd hI.rng, hlen, hhas, hup, fun i j hij hj hlt => ?_⟩
  obtain ⟨q, v, e1, e2, e3, e4⟩ := hstep i (by omega)
  obtain ⟨q2, w, f1, f2, f3, f4⟩ := hstep j (by omega)
  rw [e2, f2] at hlt
  have hnr := (firstS_some.1 e1).2.2 w (by omega)
  have hun : seen q.1 w = false := by
    cases e : seen q.1 w with
    | false => rfl
    | true =>
      obtain ⟨k, hk, hke⟩ := (e4 w f3).1 e
      have := nodup_getD hI.nd (i := k) (j := j) (by omega) hj (by rw [hke, f2])
      omega
  have hx : ∃ k, k < g.es.length ∧ (g.es.getD k default).t = (w : Int) ∧ dl.getD k 0 = 0 ∧ seen q.1 (g.es.getD k default).f.toNat = false := by
    refine Classical.byContradiction fun hc => ?_
    have : g.rdy dl q.1 w = true := rdy_iff.2 ⟨hun, fun k hk ht hd => by
      cases e : seen q.1 (g.es.getD k default).f.toNat with
      | true => rfl
      | false => exact absurd ⟨k, hk, ht, hd, e⟩ hc⟩
    rw [this] at hnr; cases hnr
  obtain ⟨k, hk, ht, hd, hf⟩ := hx
  have he := hedge k hk
  obtain ⟨a, ha, hae⟩ := hhas _ he.2.1
  have hae : s.2.getD a 0 = (g.es.getD k default).f := by rw [hae]; omega
  refine ⟨k, a, hk, hd, by rw [f2]; exact ht, ha, hae, ?_, hup k hk hd a j ha hj hae (by rw [f2]; exact ht.symm)⟩
  by_cases hai : a < i
  · rw [(e4 _ he.2.1).2 ⟨a, hai, by rw [hae]; omega⟩] at hf; cases hf
  · omega
theorem seqE_cases {g : Gr} {dl : List Int} (hd : g.dlBad dl = false) : (∃ s, g.seqTo dl g.lat.length = some s ∧ g.seqO dl = some s.2) ∨ (g.seqTo dl g.lat.length = none ∧ g.seqO dl = none) := by
  unfold Gr.seqO
  cases h : g.seqTo dl g.lat.length with
  | none => exact .inr ⟨rfl, rfl⟩
  | some s => exact .inl ⟨s, rfl, rfl⟩
theorem seqTo_stuck {g : Gr} {dl : List Int} : ∀ n, g.seqTo dl n = none → ∃ i s, i < n ∧ g.seqTo dl i = some s ∧ g.firstS dl s.1 = none
  | 0, h => by cases h
  | n + 1, h => by
    cases h1 : g.seqTo dl n with
    | none =>
      obtain ⟨i, s, a, b, c⟩ := seqTo_stuck n h1
      exact ⟨i, s, by omega, b, c⟩
    | some s =>
      have := seqTo_step h1
      rw [h] at this
      cases h2 : g.firstS dl s.1 with
      | none => exact ⟨n, s, by omega, h1, h2⟩
      | some v => rw [h2] at this; cases this

/-! Ways in a matrix. -/
abbrev BL := List (List Bool)
abbrev bw (w : BL) (a b : Nat) : Bool := (w.getD a []).getD b false
def bset (w : BL) (a b : Nat) (x : Bool) : BL := w.set a ((w.getD a []).set b x)
structure SqB (n : Nat) (w : BL) : Prop where
  len : w.length = n
  row : ∀ a, a < n → (w.getD a []).length = n
theorem getDB_set {l : BL} {i j : Nat} {x : List Bool} (h : i < l.length) : (l.set i x).getD j [] = if i = j then x else l.getD j [] := by
  simp only [List.getD_eq_getElem?_getD, List.getElem?_set]
  by_cases e : i = j
  · subst e; simp [h]
  · simp [e]
theorem SqB.bset {n : Nat} {w : BL} (h : SqB n w) {a b : Nat} (ha : a < n) {x : Bool} : SqB n (bset w a b x) := by
  refine ⟨by unfold Go.Proofs.Ytglokdfdogmmhaa.bset; rw [List.length_set, h.len], fun c hc => ?_⟩
  unfold Go.Proofs.Ytglokdfdogmmhaa.bset
  rw [getDB_set (by rw [h.len]; exact ha)]
  split
  · rw [List.length_set, h.row a ha]
  · exact h.row c hc
theorem bw_bset {n : Nat} {w : BL} (h : SqB n w) {a b c d : Nat} (ha : a < n) (hb : b < n) {x : Bool} : bw (bset w a b x) c d = if a = c ∧ b = d then x else bw w c d := by
  unfold bw Go.Proofs.Ytglokdfdogmmhaa.bset
  rw [getDB_set (by rw [h.len]; exact ha)]
  by_cases e : a = c
  · subst e
    rw [if_pos rfl]
    simp only [List.getD_eq_getElem?_getD, List.getElem?_set]
    by_cases e2 : b = d
    · subst e2
      have := h.row a ha
      simp only [List.getD_eq_getElem?_getD] at this
      simp [this, hb]
    · simp [e2]
  · rw [if_neg e, if_neg (fun h => e h.1)]
/-- The edges that do not delay. -/
def zeM (g : Gr) (dl : List Int) : Nat → BL
  | 0 => List.replicate g.lat.length (List.replicate g.lat.length false)
  | i + 1 => if dl.getD i 0 = 0 then bset (zeM g dl i) (g.es.getD i default).f.toNat (g.es.getD i default).t.toNat true else zeM g dl i
theorem rep_sq (n : Nat) : SqB n (List.replicate n (List.replicate n false)) := ⟨by simp, fun a ha => by simp [List.getD_eq_getElem?_getD, ha]⟩
theorem zeM_sq {g : Gr} (h : g.OK) {dl : List Int} : ∀ i, i ≤ g.es.length → SqB g.lat.length (zeM g dl i)
  | 0, _ => rep_sq _
  | i + 1, hi => by
    have ih := zeM_sq h (dl := dl) i (by omega)
    unfold zeM
    split
    · exact ih.bset (Gr.edge h (by omega)).2.1
    · exact ih
theorem zeM_at {g : Gr} (h : g.OK) {dl : List Int} (a b : Nat) : ∀ i, i ≤ g.es.length → (bw (zeM g dl i) a b = true ↔ ∃ k, k < i ∧ dl.getD k 0 = 0 ∧ (g.es.getD k default).f.toNat = a ∧ (g.es.getD k default).t.toNat = b)
  | 0, _ => by
    have : bw (zeM g dl 0) a b = false := by
      show (((List.replicate g.lat.length (List.replicate g.lat.length false)).getD a []).getD b false) = false
      simp only [List.getD_eq_getElem?_getD, List.getElem?_replicate]
      split
      · simp [List.getElem?_replicate]; split <;> rfl
      · simp
    rw [this]
    exact ⟨fun h => (by cases h), fun ⟨k, hk, _⟩ => (by omega)⟩
  | i + 1, hi => by
    have ih := zeM_at h (dl := dl) a b i (by omega)
    have he := Gr.edge h (j := i) (by omega)
    unfold zeM
    by_cases hd : dl.getD i 0 = 0
    · rw [if_pos hd, bw_bset (zeM_sq h i (by omega)) he.2.1 he.2.2.1]
      by_cases e : (g.es.getD i default).f.toNat = a ∧ (g.es.getD i default).t.toNat = b
      · rw [if_pos e]; exact ⟨fun _ => ⟨i, by omega, hd, e.1, e.2⟩, fun _ => rfl⟩
      · rw [if_neg e, ih]
        constructor
        · rintro ⟨k, h1, h2⟩; exact ⟨k, by omega, h2⟩
        · rintro ⟨k, h1, h2, h3⟩
          by_cases ek : k = i
          · subst ek; exact absurd h3 e
          · exact ⟨k, by omega, h2, h3⟩
    · rw [if_neg hd, ih]
      constructor
      · rintro ⟨k, h1, h2⟩; exact ⟨k, by omega, h2⟩
      · rintro ⟨k, h1, h2, h3⟩
        by_cases ek : k = i
        · subst ek; exact absurd h2 hd
        · exact ⟨k, by omega, h2, h3⟩
def wyK (k i : Nat) (w : BL) : Nat → BL
  | 0 => w
  | b + 1 => bset (wyK k i w b) i b (bw (wyK k i w b) i b || (bw (wyK k i w b) i k && bw (wyK k i w b) k b))
def wyI (n k : Nat) (w : BL) : Nat → BL
  | 0 => w
  | a + 1 => wyK k a (wyI n k w a) n
def wyM (n : Nat) (w : BL) : Nat → BL
  | 0 => w
  | k + 1 => wyI n k (wyM n w k) n
theorem wyK_sq {n k i : Nat} {w : BL} (h : SqB n w) (hi : i < n) : ∀ b, SqB n (wyK k i w b)
  | 0 => h
  | b + 1 => (wyK_sq h hi b).bset hi
theorem wyK_at {n k i : Nat} {w : BL} (h : SqB n w) (hi : i < n) (c d : Nat) : ∀ b, b ≤ n → bw (wyK k i w b) c d = if c = i ∧ d < b then (bw w i d || (bw w i k && bw w k d)) else bw w c d
  | 0, _ => by rw [if_neg (by omega)]; rfl
  | b + 1, hb => by
    have e1 := wyK_at h hi c d (k := k) b (by omega)
    have e2 := wyK_at h hi i b (k := k) b (by omega)
    have e3 := wyK_at h hi i k (k := k) b (by omega)
    have e4 := wyK_at h hi k b (k := k) b (by omega)
    rw [if_neg (by omega)] at e2 e4
    have e3 : bw (wyK k i w b) i k = bw w i k := by
      rw [e3]
      split
      · cases bw w i k <;> simp
      · rfl
    show bw (bset (wyK k i w b) i b _) c d = _
    rw [bw_bset (wyK_sq h hi b) hi (by omega), e1, e2, e3, e4]
    by_cases hc : c = i
    · subst hc
      by_cases hd : b = d
      · subst hd; rw [if_pos ⟨rfl, rfl⟩, if_pos ⟨rfl, by omega⟩]
      · rw [if_neg (fun h => hd h.2)]
        by_cases hdb : d < b
        · rw [if_pos ⟨rfl, hdb⟩, if_pos ⟨rfl, by omega⟩]
        · rw [if_neg (by omega), if_neg (by omega)]
    · rw [if_neg (fun h => hc h.1.symm), if_neg (fun h => hc h.1), if_neg (fun h => hc h.1)]
theorem wyI_at {n k : Nat} {w : BL} (h : SqB n w) (c d : Nat) (hd : d < n) : ∀ a, a ≤ n → SqB n (wyI n k w a) ∧ bw (wyI n k w a) c d = if c < a then (bw w c d || (bw w c k && bw w k d)) else bw w c d
  | 0, _ => ⟨h, by rw [if_neg (by omega)]; rfl⟩
  | a + 1, ha => by
    have i1 := wyI_at h (k := k) c d hd a (by omega)
    have i2 := (wyI_at h (k := k) k d hd a (by omega)).2
    have i3 := wyI_at h (k := k) a d hd a (by omega)
    rw [if_neg (by omega)] at i3
    refine ⟨wyK_sq i1.1 (by omega) n, ?_⟩
    show bw (wyK k a (wyI n k w a) n) c d = _
    rw [wyK_at i1.1 (by omega) c d n (Nat.le_refl _), i1.2, i3.2]
    have i2 : bw (wyI n k w a) k d = bw w k d := by
      rw [i2]; split
      · cases bw w k d <;> simp
      · rfl
    by_cases hca : c = a
    · subst hca
      rw [if_pos ⟨rfl, hd⟩, if_pos (by omega), i2]
      -- the entry in the column
      by_cases hk : k < n
      · have i4 := (wyI_at h (k := k) c k hk c (by omega)).2
        rw [if_neg (by omega)] at i4
        rw [i4]
      · have hz : ∀ w : BL, SqB n w → bw w c k = false := fun w hw => by
          unfold bw
          have := hw.row c (by omega)
          simp only [List.getD_eq_getElem?_getD] at *
          rw [List.getElem?_eq_none (by omega)]; rfl
        rw [hz _ i1.1, hz _ h]
    · rw [if_neg (fun h => hca h.1)]
      by_cases hlt : c < a
      · rw [if_pos hlt, if_pos (by omega)]
      · rw [if_neg hlt, if_neg (by omega)]
theorem wyM_sq {n : Nat} {w : BL} (h : SqB n w) : ∀ k, SqB n (wyM n w k)
  | 0 => h
  | k + 1 => by
    by_cases hn : n = 0
    · subst hn; exact ⟨(wyM_sq h k).len, fun a ha => by omega⟩
    · exact (wyI_at (wyM_sq h k) 0 0 (by omega) n (Nat.le_refl _)).1
theorem wyM_succ {n : Nat} {w : BL} (h : SqB n w) {k a b : Nat} (ha : a < n) (hb : b < n) : bw (wyM n w (k + 1)) a b = (bw (wyM n w k) a b || (bw (wyM n w k) a k && bw (wyM n w k) k b)) := by
  have := (wyI_at (k := k) (wyM_sq h k) a b hb n (Nat.le_refl _)).2
  rw [if_pos ha] at this
  exact this
theorem wyM_old {n : Nat} {w : BL} (h : SqB n w) {a b : Nat} (ha : a < n) (hb : b < n) (hw : bw w a b = true) : ∀ k, bw (wyM n w k) a b = true
  | 0 => hw
  | k + 1 => by rw [wyM_succ h ha hb, wyM_old h ha hb hw k]; rfl
theorem wyM_join {n : Nat} {w : BL} (h : SqB n w) : ∀ (k : Nat) {a m b : Nat}, k ≤ n → a < n → b < n → m < k → bw (wyM n w k) a m = true → bw (wyM n w k) m b = true → bw (wyM n w k) a b = true
  | 0, a, m, b, _, _, _, hm, _, _ => by omega
  | k + 1, a, m, b, hk, ha, hb, hm, h1, h2 => by
    have ih := @wyM_join n w h k
    rw [wyM_succ h ha (by omega), Bool.or_eq_true, Bool.and_eq_true] at h1
    rw [wyM_succ h (by omega) hb, Bool.or_eq_true, Bool.and_eq_true] at h2
    rw [wyM_succ h ha hb, Bool.or_eq_true, Bool.and_eq_true]
    by_cases e : m = k
    · subst e
      have a1 : bw (wyM n w m) a m = true := h1.elim id fun h => h.1
      have a2 : bw (wyM n w m) m b = true := h2.elim id fun h => h.2
      exact .inr ⟨a1, a2⟩
    · have hmk : m < k := by omega
      rcases h1 with h1 | ⟨h1, h3⟩
      · rcases h2 with h2 | ⟨h2, h4⟩
        · exact .inl (ih (by omega) ha hb hmk h1 h2)
        · exact .inr ⟨ih (by omega) ha (by omega) hmk h1 h2, h4⟩
      · rcases h2 with h2 | ⟨h2, h4⟩
        · exact .inr ⟨h1, ih (by omega) (by omega) hb hmk h3 h2⟩
        · exact .inr ⟨h1, h4⟩
theorem wyM_in {n : Nat} {w : BL} (h : SqB n w) {P : Nat → Nat → Prop} (hP : ∀ a b c, P a b → P b c → P a c) (hw : ∀ a b, a < n → b < n → bw w a b = true → P a b) : ∀ k, k ≤ n → ∀ a b, a < n → b < n → bw (wyM n w k) a b = true → P a b
  | 0, _, a, b, ha, hb, hx => hw a b ha hb hx
  | k + 1, hk, a, b, ha, hb, hx => by
    rw [wyM_succ h ha hb, Bool.or_eq_true, Bool.and_eq_true] at hx
    rcases hx with hx | ⟨h1, h2⟩
    · exact wyM_in h hP hw k (by omega) a b ha hb hx
    · exact hP _ _ _ (wyM_in h hP hw k (by omega) a k ha (by omega) h1) (wyM_in h hP hw k (by omega) k b (by omega) hb h2)
abbrev Gr.wayB (g : Gr) (dl : List Int) : BL := wyM g.lat.length (zeM g dl g.es.length) g.lat.length
/-- There is no order exactly if there is a cycle. -/
theorem seq_loop {g : Gr} (h : g.OK) {dl : List Int} : g.seqTo dl g.lat.length = none ↔ ∃ v, v < g.lat.length ∧ bw (g.wayB dl) v v = true := by
  have hsq := zeM_sq h (dl := dl) g.es.length (Nat.le_refl _)
  constructor
  · intro hn
    obtain ⟨i, s, hi, hs, hf⟩ := seqTo_stuck _ hn
    refine Classical.byContradiction fun hc => ?_
    have hI := seqTo_inv hs
    obtain ⟨u, hu, hun⟩ : ∃ u, u < g.lat.length ∧ seen s.1 u = false := by
      refine Classical.byContradiction fun hx => ?_
      have hall : ∀ v, v < s.1.length → seen s.1 v = true := fun v hv => by
        cases e : seen s.1 v with
        | true => rfl
        | false => exact absurd ⟨v, by rw [← hI.len]; exact hv, e⟩ hx
      have : ∀ l : List Bool, (∀ v, v < l.length → seen l v = true) → unseen l = 0 := by
        intro l
        induction l with
        | nil => intro _; rfl
        | cons b r ih =>
          intro h
          have hb : b = true := by simpa [seen] using h 0 (by simp)
          have := ih fun v hv => by simpa [seen] using h (v + 1) (by simpa using hv)
          simp [unseen, hb, this]
      have := this s.1 hall
      have := hI.unn
      omega
    obtain ⟨m, hm, hmU, hmin⟩ := minimal (n := g.lat.length) (R := fun a b => a < g.lat.length ∧ b < g.lat.length ∧ bw (g.wayB dl) a b = true) (fun a b c h1 h2 => ⟨h1.1, h2.2.1, wyM_join hsq _ (Nat.le_refl _) h1.1 h2.2.1 h1.2.1 h1.2.2 h2.2.2⟩) (fun a h => hc ⟨a, h.1, h.2.2⟩) (U := fun u => seen s.1 u = false) hu hun
    have hnr := firstS_none.1 hf m hm
    have hx : ∃ k, k < g.es.length ∧ (g.es.getD k default).t = (m : Int) ∧ dl.getD k 0 = 0 ∧ seen s.1 (g.es.getD k default).f.toNat = false := by
      refine Classical.byContradiction fun hc2 => ?_
      have : g.rdy dl s.1 m = true := rdy_iff.2 ⟨hmU, fun k hk ht hd => by
        cases e : seen s.1 (g.es.getD k default).f.toNat with
        | true => rfl
        | false => exact absurd ⟨k, hk, ht, hd, e⟩ hc2⟩
      rw [this] at hnr; cases hnr
    obtain ⟨k, hk, ht, hd, hfu⟩ := hx
    obtain ⟨_, hef, het, _, _⟩ := Gr.edge h hk
    refine hmin _ hef hfu ⟨hef, hm, wyM_old hsq hef hm ((zeM_at h _ _ _ (Nat.le_refl _)).2 ⟨k, hk, hd, rfl, by omega⟩) _⟩
  · rintro ⟨v, hv, hw⟩
    cases hs : g.seqTo dl g.lat.length with
    | none => rfl
    | some s =>
      have hq := seq_seqd h hs
      have := wyM_in hsq (P := fun a b => a < g.lat.length ∧ b < g.lat.length ∧ ∀ i j, i < s.2.length → j < s.2.length → s.2.getD i 0 = (a : Int) → s.2.getD j 0 = (b : Int) → i < j) (fun a b c h1 h2 => ⟨h1.1, h2.2.1, fun i j hi hj e1 e2 => by
        obtain ⟨m, hm, hme⟩ := hq.has b h1.2.1
        have a1 := h1.2.2 i m hi hm e1 hme
        have a2 := h2.2.2 m j hm hj hme e2
        omega⟩) (fun a b ha hb hx => ⟨ha, hb, fun i j hi hj e1 e2 => by
        obtain ⟨k, hk, hd, hkf, hkt⟩ := (zeM_at h _ _ _ (Nat.le_refl _)).1 hx
        obtain ⟨_, _, _, h0, h1⟩ := Gr.edge h hk
        exact hq.up k hk hd i j hi hj (by rw [e1]; omega) (by rw [e2]; omega)⟩) _ (Nat.le_refl _) v v hv hv hw
      obtain ⟨j, hj, hje⟩ := hq.has v hv
      have := this.2.2 j j hj hj hje hje
      omega

end Go.Proofs.Ytglokdfdogmmhaa
