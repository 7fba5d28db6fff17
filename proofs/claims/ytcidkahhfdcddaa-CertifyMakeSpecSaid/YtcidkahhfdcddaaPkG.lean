/- Graphs with delays, in plain Lean: the shortest ways by rounds over the edges; the cycle that is found. No program in sight. -/
namespace Go.Proofs.Ytcidkahhfdcddaa
set_option linter.unusedVariables false
set_option linter.unusedSimpArgs false

structure Edg where
  f : Int
  t : Int
  w : Int
  d : Int
deriving Inhabited
structure Gr where
  lat : List Int
  es : List Edg

def Edg.ok (n : Nat) (e : Edg) : Bool := decide (0 ≤ e.f ∧ e.f ≤ (n : Int) - 1) && decide (0 ≤ e.t ∧ e.t ≤ (n : Int) - 1) && decide (0 ≤ e.w ∧ e.w ≤ 64) && decide (0 ≤ e.d ∧ e.d ≤ 1048576)
def latOk (x : Int) : Bool := decide (0 ≤ x ∧ x ≤ 4096)
def Gr.formed (g : Gr) : Int := if g.lat.length > 4096 ∨ g.es.length > 16384 then 2 else if g.lat.all latOk && g.es.all (Edg.ok g.lat.length) then 0 else 210
structure Gr.OK (g : Gr) : Prop where
  n : g.lat.length ≤ 4096
  m : g.es.length ≤ 16384
  lat : ∀ x ∈ g.lat, 0 ≤ x ∧ x ≤ 4096
  es : ∀ e ∈ g.es, (0 ≤ e.f ∧ e.f < g.lat.length) ∧ (0 ≤ e.t ∧ e.t < g.lat.length) ∧ (0 ≤ e.w ∧ e.w ≤ 64) ∧ 0 ≤ e.d ∧ e.d ≤ 1048576
theorem Gr.ok_of {g : Gr} (h : g.formed = 0) : g.OK := by
  unfold Gr.formed at h
  split at h
  · omega
  · rename_i h1
    split at h
    · rename_i h2
      simp only [Bool.and_eq_true, List.all_eq_true] at h2
      refine ⟨by omega, by omega, fun x hx => by simpa [latOk] using h2.1 x hx, fun e he => ?_⟩
      have := h2.2 e he
      simp only [Edg.ok, Bool.and_eq_true, decide_eq_true_eq] at this
      omega
    · omega
theorem Gr.formed_of {g : Gr} (h : g.OK) : g.formed = 0 := by
  unfold Gr.formed
  rw [if_neg (by have := h.n; have := h.m; omega), if_pos]
  simp only [Bool.and_eq_true, List.all_eq_true]
  refine ⟨fun x hx => by simpa [latOk] using h.lat x hx, fun e he => ?_⟩
  have := h.es e he
  simp only [Edg.ok, Bool.and_eq_true, decide_eq_true_eq]
  omega

abbrev Gr.nn (g : Gr) : Int := (g.lat.length : Int)
/-- What an edge is long: its delay without the latency of the node that it leaves. -/
def Gr.wt (g : Gr) (e : Edg) : Int := e.d - g.lat.getD e.f.toNat 0
def Gr.W (g : Gr) (e : Edg) : Int := (g.nn + 1) * g.wt e - 1
theorem getD_lt {α : Type} (l : List α) (d : α) {i : Nat} (h : i < l.length) : l.getD i d = l[i] := by simp [List.getD_eq_getElem?_getD, h]
theorem getD_ge {α : Type} (l : List α) (d : α) {i : Nat} (h : l.length ≤ i) : l.getD i d = d := by simp [List.getD_eq_getElem?_getD, h]
theorem getD_mem_or {l : List Int} {i : Nat} : l.getD i 0 ∈ l ∨ l.getD i 0 = 0 := by
  by_cases h : i < l.length
  · left; rw [getD_lt _ _ h]; exact List.getElem_mem h
  · right; rw [getD_ge _ _ (by omega)]
theorem Gr.lat_at {g : Gr} (h : g.OK) (i : Nat) : 0 ≤ g.lat.getD i 0 ∧ g.lat.getD i 0 ≤ 4096 := by
  rcases getD_mem_or (l := g.lat) (i := i) with h1 | h1
  · exact h.lat _ h1
  · omega
theorem Gr.wt_bd {g : Gr} (h : g.OK) {e : Edg} (he : e ∈ g.es) : -4096 ≤ g.wt e ∧ g.wt e ≤ 1048576 := by
  have h1 := g.lat_at h e.f.toNat
  have h2 := h.es e he
  unfold Gr.wt; omega

structure BF where
  far : List Int
  by_ : List Int
  last : Int
abbrev BF.F (s : BF) (v : Nat) : Int := s.far.getD v 0
abbrev BF.B (s : BF) (v : Nat) : Int := s.by_.getD v 0
def relax (g : Gr) (s : BF) (i : Nat) : BF :=
  let e := g.es.getD i default
  if s.F e.f.toNat + g.W e < s.F e.t.toNat then ⟨s.far.set e.t.toNat (s.F e.f.toNat + g.W e), s.by_.set e.t.toNat i, e.t⟩ else s
def passTo (g : Gr) (s : BF) (i : Nat) : BF := (List.range i).foldl (relax g) { s with last := -1 }
def pass (g : Gr) (s : BF) : BF := passTo g s g.es.length
theorem passTo_succ (g : Gr) (s : BF) (i : Nat) : passTo g s (i + 1) = relax g (passTo g s i) i := by
  simp [passTo, List.range_succ]
def rounds (g : Gr) : Nat → BF → BF
  | 0, s => s
  | k + 1, s => if (pass g s).last < 0 then pass g s else rounds g k (pass g s)
def Gr.start (g : Gr) : BF := ⟨List.replicate g.lat.length 0, List.replicate g.lat.length 0, -1⟩
def Gr.run (g : Gr) : BF := rounds g (g.lat.length + 1) g.start

theorem getD_set {l : List Int} {i j : Nat} {x : Int} (h : i < l.length) : (l.set i x).getD j 0 = if i = j then x else l.getD j 0 := by
  simp only [List.getD_eq_getElem?_getD, List.getElem?_set]
  by_cases hij : i = j
  · subst hij; simp [h]
  · simp [hij]

/-- Round r, the edges below i having been looked at; 'st': the round in which a node was reached last. -/
structure Inv (g : Gr) (r i : Nat) (s : BF) (st : Nat → Nat) : Prop where
  lenf : s.far.length = g.lat.length
  lenb : s.by_.length = g.lat.length
  le : ∀ v, st v ≤ r
  set : ∀ v, v < g.lat.length → 0 < st v → ∃ j, j < g.es.length ∧ s.B v = (j : Int) ∧ (g.es.getD j default).t.toNat = v ∧ s.F (g.es.getD j default).f.toNat + g.W (g.es.getD j default) ≤ s.F v ∧ st v ≤ st (g.es.getD j default).f.toNat + 1
  bys : ∀ v, v < g.lat.length → 0 ≤ s.B v
  rel : ∀ j, j < g.es.length → (j < i → s.F (g.es.getD j default).t.toNat ≤ s.F (g.es.getD j default).f.toNat + g.W (g.es.getD j default) ∨ r ≤ st (g.es.getD j default).f.toNat) ∧
    (i ≤ j → r ≤ 1 ∨ s.F (g.es.getD j default).t.toNat ≤ s.F (g.es.getD j default).f.toNat + g.W (g.es.getD j default) ∨ r ≤ st (g.es.getD j default).f.toNat + 1)
  last : (s.last = -1 ∧ ∀ v, st v < r) ∨ ∃ v, v < g.lat.length ∧ s.last = (v : Int) ∧ st v = r
  top : ∀ v, s.F v ≤ 0
  low : ∀ v, -((((r - 1) * g.es.length + i : Nat) : Int) * 16785408) ≤ s.F v

theorem Gr.edge {g : Gr} (h : g.OK) {j : Nat} (hj : j < g.es.length) : g.es.getD j default ∈ g.es ∧ (g.es.getD j default).f.toNat < g.lat.length ∧ (g.es.getD j default).t.toNat < g.lat.length ∧ 0 ≤ (g.es.getD j default).f ∧ 0 ≤ (g.es.getD j default).t := by
  have hm : g.es.getD j default ∈ g.es := by rw [getD_lt _ _ hj]; exact List.getElem_mem hj
  have := h.es _ hm
  exact ⟨hm, by omega, by omega, by omega, by omega⟩
theorem Gr.W_low {g : Gr} (h : g.OK) {e : Edg} (he : e ∈ g.es) : -16785408 ≤ g.W e ∧ g.W e ≤ 4296015872 := by
  have h1 := g.wt_bd h he
  have h2 := h.n
  unfold Gr.W Gr.nn
  have a : ((g.lat.length : Int) + 1) * g.wt e ≤ ((g.lat.length : Int) + 1) * 1048576 := Int.mul_le_mul_of_nonneg_left h1.2 (by omega)
  have b : ((g.lat.length : Int) + 1) * (-4096) ≤ ((g.lat.length : Int) + 1) * g.wt e := Int.mul_le_mul_of_nonneg_left h1.1 (by omega)
  omega

theorem inv_step {g : Gr} (h : g.OK) {r i : Nat} {s : BF} {st : Nat → Nat} (hr : 1 ≤ r) (hi : i < g.es.length) (I : Inv g r i s st) : ∃ st', Inv g r (i + 1) (relax g s i) st' := by
  obtain ⟨e, he⟩ : ∃ e, g.es.getD i default = e := ⟨_, rfl⟩
  obtain ⟨hm, hf, ht, hf0, ht0⟩ := he ▸ Gr.edge h hi
  have hW := Gr.W_low h hm
  have hrel : relax g s i = if s.F e.f.toNat + g.W e < s.F e.t.toNat then ⟨s.far.set e.t.toNat (s.F e.f.toNat + g.W e), s.by_.set e.t.toNat i, e.t⟩ else s := by
    unfold relax; simp only [he]
  rw [hrel]
  have hlow : ∀ v, -((((r - 1) * g.es.length + (i + 1) : Nat) : Int) * 16785408) ≤ s.F v := fun v => by have := I.low v; omega
  by_cases hd : s.F e.f.toNat + g.W e < s.F e.t.toNat
  · rw [if_pos hd]
    obtain ⟨d, hde⟩ : ∃ d, s.F e.f.toNat + g.W e = d := ⟨_, rfl⟩
    rw [hde] at hd ⊢
    have hF : ∀ v, BF.F ⟨s.far.set e.t.toNat d, s.by_.set e.t.toNat i, e.t⟩ v = if e.t.toNat = v then d else s.F v := fun v => getD_set (by rw [I.lenf]; exact ht)
    have hB : ∀ v, BF.B ⟨s.far.set e.t.toNat d, s.by_.set e.t.toNat i, e.t⟩ v = if e.t.toNat = v then (i : Int) else s.B v := fun v => getD_set (by rw [I.lenb]; exact ht)
    have hle : ∀ v, BF.F ⟨s.far.set e.t.toNat d, s.by_.set e.t.toNat i, e.t⟩ v ≤ s.F v := fun v => by
      rw [hF]; split
      · rename_i hv; rw [← hv]; omega
      · exact Int.le_refl _
    refine ⟨fun v => if e.t.toNat = v then r else st v, ?_⟩
    refine { lenf := by simpa using I.lenf, lenb := by simpa using I.lenb, le := fun v => by split; exact Nat.le_refl _; exact I.le v, set := fun v hv hs => ?_, bys := fun v hv => by rw [hB]; split; omega; exact I.bys v hv, rel := fun j hj => ?_, last := .inr ⟨e.t.toNat, ht, by show e.t = _; omega, by simp⟩, top := fun v => Int.le_trans (hle v) (I.top v), low := fun v => ?_ }
    · by_cases hv' : e.t.toNat = v
      · refine ⟨i, hi, by rw [hB, if_pos hv'], by rw [he]; exact hv', ?_, ?_⟩
        · rw [he, hF v, if_pos hv']
          have := hle e.f.toNat
          omega
        · rw [if_pos hv', he]
          by_cases h2 : e.t.toNat = e.f.toNat
          · rw [if_pos h2]; omega
          · rw [if_neg h2]
            have h3 := (I.rel i hi).2 (Nat.le_refl _)
            rw [he] at h3
            rcases h3 with h3 | h3 | h3
            · omega
            · omega
            · omega
      · rw [if_neg hv'] at hs
        obtain ⟨j, hj, h1, h2, h3, h4⟩ := I.set v hv hs
        refine ⟨j, hj, by rw [hB, if_neg hv']; exact h1, h2, ?_, ?_⟩
        · rw [hF v, if_neg hv']
          have := hle (g.es.getD j default).f.toNat
          omega
        · rw [if_neg hv']
          split
          · have := I.le v; omega
          · exact h4
    · have hstf : ∀ {k : Nat}, k ≤ st (g.es.getD j default).f.toNat → k ≤ r → k ≤ (if e.t.toNat = (g.es.getD j default).f.toNat then r else st (g.es.getD j default).f.toNat) := fun {k} h1 h2 => by split <;> assumption
      have hFj : (¬ e.t.toNat = (g.es.getD j default).f.toNat) → s.F (g.es.getD j default).t.toNat ≤ s.F (g.es.getD j default).f.toNat + g.W (g.es.getD j default) →
          BF.F ⟨s.far.set e.t.toNat d, s.by_.set e.t.toNat i, e.t⟩ (g.es.getD j default).t.toNat ≤ BF.F ⟨s.far.set e.t.toNat d, s.by_.set e.t.toNat i, e.t⟩ (g.es.getD j default).f.toNat + g.W (g.es.getD j default) := fun hne h1 => by
        rw [hF (g.es.getD j default).f.toNat, if_neg hne]
        have := hle (g.es.getD j default).t.toNat
        omega
      by_cases hne : e.t.toNat = (g.es.getD j default).f.toNat
      · refine ⟨fun _ => .inr (by rw [if_pos hne]; exact Nat.le_refl _), fun _ => .inr (.inr (by rw [if_pos hne]; omega))⟩
      · simp only [if_neg hne]
        refine ⟨fun hji => ?_, fun hji => ?_⟩
        · by_cases hji' : j = i
          · subst hji'
            rw [he] at hne ⊢
            left
            rw [hF e.t.toNat, if_pos rfl, hF e.f.toNat, if_neg hne]
            omega
          · rcases (I.rel j hj).1 (by omega) with h1 | h1
            · exact .inl (hFj hne h1)
            · exact .inr h1
        · rcases (I.rel j hj).2 (by omega) with h1 | h1 | h1
          · exact .inl h1
          · exact .inr (.inl (hFj hne h1))
          · exact .inr (.inr h1)
    · rw [hF]
      split
      · have := I.low e.f.toNat; omega
      · exact hlow v
  · rw [if_neg hd]
    refine ⟨st, { lenf := I.lenf, lenb := I.lenb, le := I.le, set := I.set, bys := I.bys, rel := fun j hj => ⟨fun hji => ?_, fun hji => (I.rel j hj).2 (by omega)⟩, last := I.last, top := I.top, low := hlow }⟩
    by_cases hji' : j = i
    · subst hji'
      rw [he]; left; omega
    · exact (I.rel j hj).1 (by omega)

theorem inv_start {g : Gr} : Inv g 1 0 g.start fun _ => 0 := by
  have hF : ∀ v, g.start.F v = 0 := fun v => by simp [Gr.start, BF.F, List.getD_eq_getElem?_getD, List.getElem?_replicate]; split <;> rfl
  have hB : ∀ v, g.start.B v = 0 := fun v => by simp [Gr.start, BF.B, List.getD_eq_getElem?_getD, List.getElem?_replicate]; split <;> rfl
  exact { lenf := by simp [Gr.start], lenb := by simp [Gr.start], le := fun _ => by omega, set := fun v _ h => by omega, bys := fun v _ => by rw [hB]; omega, rel := fun j _ => ⟨fun h => by omega, fun _ => .inl (by omega)⟩, last := .inl ⟨rfl, fun _ => by omega⟩, top := fun v => by rw [hF]; omega, low := fun v => by rw [hF]; simp }
theorem inv_next {g : Gr} {r : Nat} {s : BF} {st : Nat → Nat} (hr : 1 ≤ r) (I : Inv g r g.es.length s st) : Inv g (r + 1) 0 { s with last := -1 } st :=
  { lenf := I.lenf, lenb := I.lenb, le := fun v => by have := I.le v; omega, set := I.set, bys := I.bys
    rel := fun j hj => ⟨fun h => by omega, fun _ => .inr (by
      rcases (I.rel j hj).1 hj with h | h
      · exact .inl h
      · exact .inr (by omega))⟩
    last := .inl ⟨rfl, fun v => by have := I.le v; omega⟩, top := I.top
    low := fun v => by
      have := I.low v
      have e : (r + 1 - 1) * g.es.length + 0 = (r - 1) * g.es.length + g.es.length := by
        obtain ⟨k, rfl⟩ : ∃ k, r = k + 1 := ⟨r - 1, by omega⟩
        simp [Nat.succ_mul]
      rw [e]; exact this }
theorem inv_passTo {g : Gr} (h : g.OK) {r : Nat} {s : BF} {st : Nat → Nat} (hr : 1 ≤ r) (I : Inv g r 0 { s with last := -1 } st) : ∀ i, i ≤ g.es.length → ∃ st', Inv g r i (passTo g s i) st'
  | 0, _ => ⟨st, I⟩
  | i + 1, hi => by
    obtain ⟨st', I'⟩ := inv_passTo h hr I i (by omega)
    rw [passTo_succ]
    exact inv_step h hr (by omega) I'

/-- At the end of the rounds. -/
def Quiet (g : Gr) (s : BF) : Prop := ∀ e ∈ g.es, s.F e.t.toNat ≤ s.F e.f.toNat + g.W e
theorem rounds_end {g : Gr} (h : g.OK) : ∀ (k r : Nat) (s : BF) (st : Nat → Nat), 1 ≤ r → 1 ≤ k → Inv g r 0 { s with last := -1 } st →
    (((rounds g k s).last = -1 ∧ Quiet g (rounds g k s)) ∨ ∃ st', Inv g (r + k - 1) g.es.length (rounds g k s) st' ∧ ∃ v, v < g.lat.length ∧ (rounds g k s).last = (v : Int) ∧ st' v = r + k - 1)
  | 0, r, s, st, hr, hk, I => by omega
  | k + 1, r, s, st, hr, hk, I => by
    obtain ⟨st', I'⟩ := inv_passTo h hr I g.es.length (Nat.le_refl _)
    show (((if (pass g s).last < 0 then pass g s else rounds g k (pass g s)).last = -1 ∧ _) ∨ _)
    have I' : Inv g r g.es.length (pass g s) st' := I'
    have e : rounds g (k + 1) s = if (pass g s).last < 0 then pass g s else rounds g k (pass g s) := rfl
    rw [e]
    rcases I'.last with ⟨hl, hst⟩ | ⟨v, hv, hl, hst⟩
    · rw [if_pos (by omega)]
      refine .inl ⟨hl, fun e he => ?_⟩
      obtain ⟨j, hj, rfl⟩ := List.mem_iff_getElem.1 he
      have := (I'.rel j hj).1 hj
      rw [getD_lt _ _ hj] at this
      rcases this with h1 | h1
      · exact h1
      · have := hst (g.es[j]).f.toNat; omega
    · rw [if_neg (by omega)]
      by_cases hk0 : k = 0
      · subst hk0
        exact .inr ⟨st', I', v, hv, hl, hst⟩
      · have := rounds_end h k (r + 1) (pass g s) st' (by omega) (by omega) (inv_next hr I')
        have e2 : r + 1 + k - 1 = r + (k + 1) - 1 := by omega
        rw [e2] at this
        exact this
theorem run_end {g : Gr} (h : g.OK) : (g.run.last = -1 ∧ Quiet g g.run) ∨ ∃ st, Inv g (g.lat.length + 1) g.es.length g.run st ∧ ∃ v, v < g.lat.length ∧ g.run.last = (v : Int) ∧ st v = g.lat.length + 1 := by
  have := rounds_end h (g.lat.length + 1) 1 g.start (fun _ => 0) (by omega) (by omega) inv_start
  have e : 1 + (g.lat.length + 1) - 1 = g.lat.length + 1 := by omega
  rw [e] at this
  exact this

/-! The way back. -/
def Gr.pr (g : Gr) (s : BF) (v : Nat) : Nat := (g.es.getD (s.B v).toNat default).f.toNat
def Gr.back (g : Gr) (s : BF) : Nat → Nat → Nat
  | 0, v => v
  | k + 1, v => g.pr s (g.back s k v)
theorem back_add (g : Gr) (s : BF) (a b v : Nat) : g.back s (a + b) v = g.back s b (g.back s a v) := by
  induction b with
  | zero => rfl
  | succ b ih => show g.pr s (g.back s (a + b) v) = _; rw [ih]; rfl

theorem pigeon : ∀ (n : Nat) (l : List Nat), l.Nodup → (∀ x ∈ l, x < n) → l.length ≤ n
  | 0, l, _, h => by
    cases l with
    | nil => simp
    | cons x r => have := h x (by simp); omega
  | n + 1, l, hd, h => by
    have h1 := pigeon n (l.erase n) (hd.erase n) (fun x hx => by
      have h2 := h x (List.mem_of_mem_erase hx)
      have h3 : x ≠ n := fun e => by subst e; exact (List.Nodup.not_mem_erase hd) hx
      omega)
    have h2 := List.length_erase_le (a := n) (l := l)
    have h3 : l.length ≤ (l.erase n).length + 1 := by
      rw [List.length_erase]; split <;> omega
    omega
theorem repeats {n : Nat} {x : Nat → Nat} (h : ∀ i, i ≤ n → x i < n) : ∃ a b, a < b ∧ b ≤ n ∧ x a = x b := by
  refine Classical.byContradiction fun hno => ?_
  have hnd : ((List.range (n + 1)).map x).Nodup := by
    rw [List.nodup_iff_pairwise_ne, List.pairwise_map]
    refine List.Pairwise.imp_of_mem ?_ (List.pairwise_lt_range (n := n + 1))
    intro a b ha hb hab e
    exact hno ⟨a, b, hab, by simp at hb; omega, e⟩
  have := pigeon n _ hnd (fun y hy => by
    obtain ⟨i, hi, rfl⟩ := List.mem_map.1 hy
    exact h i (by simp at hi; omega))
  simp at this
  omega

/-- The nodes from which one can go back for ever. -/
structure OnWay (g : Gr) (s : BF) (v : Nat) : Prop where
  lt : v < g.lat.length
  ed : ∃ j, j < g.es.length ∧ s.B v = (j : Int) ∧ (g.es.getD j default).t.toNat = v ∧ s.F (g.es.getD j default).f.toNat + g.W (g.es.getD j default) ≤ s.F v
theorem onWay_of {g : Gr} {r i : Nat} {s : BF} {st : Nat → Nat} (I : Inv g r i s st) {v : Nat} (hv : v < g.lat.length) (hs : 0 < st v) : OnWay g s v ∧ st v ≤ st (g.pr s v) + 1 := by
  obtain ⟨j, hj, h1, h2, h3, h4⟩ := I.set v hv hs
  refine ⟨⟨hv, j, hj, h1, h2, h3⟩, ?_⟩
  unfold Gr.pr
  rw [h1]; simpa using h4
theorem OnWay.pr_lt {g : Gr} (h : g.OK) {s : BF} {v : Nat} (o : OnWay g s v) : g.pr s v < g.lat.length := by
  obtain ⟨j, hj, h1, _⟩ := o.ed
  unfold Gr.pr
  rw [h1]
  exact (Gr.edge h (j := (j : Int).toNat) (by simpa using hj)).2.1

structure Cyc (g : Gr) (s : BF) (x : Nat) : Prop where
  way : ∀ k, OnWay g s (g.back s k x)
  per : ∃ k, 0 < k ∧ k ≤ g.lat.length ∧ g.back s k x = x
theorem cycle_of {g : Gr} (h : g.OK) {s : BF} {st : Nat → Nat} {v : Nat} (I : Inv g (g.lat.length + 1) g.es.length s st) (hv : v < g.lat.length) (hst : st v = g.lat.length + 1) :
    (∀ k, OnWay g s (g.back s k v)) ∧ Cyc g s (g.back s (g.lat.length + 1) v) := by
  have hway : ∀ k, k ≤ g.lat.length → g.back s k v < g.lat.length ∧ g.lat.length + 1 ≤ st (g.back s k v) + k := by
    intro k
    induction k with
    | zero => intro _; exact ⟨hv, by show _ ≤ st v + 0; omega⟩
    | succ k ih =>
      intro hk
      obtain ⟨h1, h2⟩ := ih (by omega)
      obtain ⟨o, h3⟩ := onWay_of I h1 (by omega)
      exact ⟨o.pr_lt h, by show _ ≤ st (g.pr s (g.back s k v)) + (k + 1); omega⟩
  have hon : ∀ k, k ≤ g.lat.length → OnWay g s (g.back s k v) := fun k hk => (onWay_of I (hway k hk).1 (by have := (hway k hk).2; omega)).1
  obtain ⟨a, b, hab, hb, he⟩ := repeats (n := g.lat.length) (x := fun k => g.back s k v) (fun i hi => (hway i hi).1)
  have hper : ∀ k, a ≤ k → g.back s (k + (b - a)) v = g.back s k v := by
    intro k hk
    obtain ⟨c, rfl⟩ : ∃ c, k = a + c := ⟨k - a, by omega⟩
    have e : a + c + (b - a) = b + c := by omega
    rw [e, back_add, back_add, show g.back s b v = g.back s a v from he.symm]
  have hall : ∀ k, ∃ k', k' ≤ g.lat.length ∧ g.back s k v = g.back s k' v := by
    intro k
    induction k using Nat.strongRecOn with
    | ind k ih =>
      by_cases hk : k ≤ g.lat.length
      · exact ⟨k, hk, rfl⟩
      · obtain ⟨k', h1, h2⟩ := ih (k - (b - a)) (by omega)
        refine ⟨k', h1, ?_⟩
        rw [← h2]
        have := hper (k - (b - a)) (by omega)
        rw [← this]
        congr 1
        omega
  have hw : ∀ k, OnWay g s (g.back s k v) := fun k => by
    obtain ⟨k', h1, h2⟩ := hall k
    rw [h2]; exact hon k' h1
  refine ⟨hw, fun k => by rw [← back_add]; exact hw _, b - a, by omega, by omega, ?_⟩
  rw [← back_add]
  exact hper _ (by omega)

end Go.Proofs.Ytcidkahhfdcddaa

/- The shortest ways by nodes, in plain Lean; that they find a cycle that is too short just where the rounds do. No program in sight. -/
namespace Go.Proofs.Ytcidkahhfdcddaa
set_option linter.unusedVariables false
set_option linter.unusedSimpArgs false

abbrev FAR : Int := 1099511627776
abbrev wa (w : List (List Int)) (i k : Nat) : Int := (w.getD i []).getD k 0
def mset (w : List (List Int)) (i k : Nat) (x : Int) : List (List Int) := w.set i ((w.getD i []).set k x)
structure Sq (n : Nat) (w : List (List Int)) : Prop where
  len : w.length = n
  row : ∀ i, i < n → (w.getD i []).length = n
theorem getDL_set {l : List (List Int)} {i j : Nat} {x : List Int} (h : i < l.length) : (l.set i x).getD j [] = if i = j then x else l.getD j [] := by
  simp only [List.getD_eq_getElem?_getD, List.getElem?_set]
  by_cases hij : i = j
  · subst hij; simp [h]
  · simp [hij]
theorem Sq.mset {n : Nat} {w : List (List Int)} (h : Sq n w) {i k : Nat} (hi : i < n) (x : Int) : Sq n (mset w i k x) := by
  refine ⟨by simp [Go.Proofs.Ytcidkahhfdcddaa.mset, h.len], fun j hj => ?_⟩
  unfold Go.Proofs.Ytcidkahhfdcddaa.mset
  rw [getDL_set (by rw [h.len]; exact hi)]
  split
  · rw [List.length_set]; exact h.row i hi
  · exact h.row j hj
theorem wa_mset {n : Nat} {w : List (List Int)} (h : Sq n w) {i k : Nat} (hi : i < n) (hk : k < n) (x : Int) (a b : Nat) : wa (mset w i k x) a b = if i = a ∧ k = b then x else wa w a b := by
  unfold mset wa
  rw [getDL_set (by rw [h.len]; exact hi)]
  by_cases ha : i = a
  · subst ha
    rw [if_pos rfl, getD_set (by rw [h.row i hi]; exact hk)]
    by_cases hb : k = b
    · simp [hb]
    · simp [hb]
  · simp [ha]

def way0 (n : Nat) : List (List Int) := List.replicate n (List.replicate n FAR)
def wayE (g : Gr) (w : List (List Int)) (i : Nat) : List (List Int) :=
  let e := g.es.getD i default
  mset w e.f.toNat e.t.toNat (min (wa w e.f.toNat e.t.toNat) (g.wt e))
def wayEs (g : Gr) (i : Nat) : List (List Int) := (List.range i).foldl (wayE g) (way0 g.lat.length)
def fw1 (m i : Nat) (w : List (List Int)) (k : Nat) : List (List Int) :=
  if wa w i m < FAR ∧ wa w m k < FAR then mset w i k (max (-FAR) (min (wa w i k) (wa w i m + wa w m k))) else w
def fwK (m i : Nat) (w : List (List Int)) (k : Nat) : List (List Int) := (List.range k).foldl (fw1 m i) w
def fwI (n m : Nat) (w : List (List Int)) (i : Nat) : List (List Int) := (List.range i).foldl (fun w i => fwK m i w n) w
def fwM (g : Gr) (m : Nat) : List (List Int) := (List.range m).foldl (fun w m => fwI g.lat.length m w g.lat.length) (wayEs g g.es.length)
def Gr.short (g : Gr) : Bool := (List.range g.lat.length).any fun i => decide (wa (fwM g g.lat.length) i i ≤ 0)
theorem wayEs_succ (g : Gr) (i : Nat) : wayEs g (i + 1) = wayE g (wayEs g i) i := by simp [wayEs, List.range_succ]
theorem fwK_succ (m i : Nat) (w : List (List Int)) (k : Nat) : fwK m i w (k + 1) = fw1 m i (fwK m i w k) k := by simp [fwK, List.range_succ]
theorem fwI_succ (n m : Nat) (w : List (List Int)) (i : Nat) : fwI n m w (i + 1) = fwK m i (fwI n m w i) n := by simp [fwI, List.range_succ]
theorem fwM_succ (g : Gr) (m : Nat) : fwM g (m + 1) = fwI g.lat.length m (fwM g m) g.lat.length := by simp [fwM, List.range_succ]

/-- What holds of all ways: within bounds. -/
structure Way (n : Nat) (w : List (List Int)) : Prop where
  sq : Sq n w
  lo : ∀ a b, a < n → b < n → -FAR ≤ wa w a b
  hi : ∀ a b, a < n → b < n → wa w a b ≤ FAR
theorem Way.set {n : Nat} {w : List (List Int)} (h : Way n w) {i k : Nat} (hi : i < n) (hk : k < n) {x : Int} (h1 : -FAR ≤ x) (h2 : x ≤ FAR) : Way n (mset w i k x) :=
  ⟨h.sq.mset hi x, fun a b ha hb => by rw [wa_mset h.sq hi hk]; split; exact h1; exact h.lo a b ha hb, fun a b ha hb => by rw [wa_mset h.sq hi hk]; split; exact h2; exact h.hi a b ha hb⟩
theorem way0_at {n a b : Nat} (ha : a < n) (hb : b < n) : wa (way0 n) a b = FAR := by
  simp [way0, wa, List.getD_eq_getElem?_getD, List.getElem?_replicate, ha, hb]
theorem way_way0 (n : Nat) : Way n (way0 n) := by
  refine ⟨⟨by simp [way0], fun i hi => by simp [way0, List.getD_eq_getElem?_getD, List.getElem?_replicate, hi]⟩, fun a b ha hb => ?_, fun a b ha hb => ?_⟩
  · rw [way0_at ha hb]; decide
  · rw [way0_at ha hb]; exact Int.le_refl _

/-! One way round: where no round's step is left, no way is too short. -/
def Pot (g : Gr) (F : Nat → Int) (w : List (List Int)) : Prop := ∀ a b, a < g.lat.length → b < g.lat.length → wa w a b < FAR → F b - F a ≤ (g.nn + 1) * wa w a b - 1
theorem wayE_ok {g : Gr} (h : g.OK) {w : List (List Int)} (hw : Way g.lat.length w) {i : Nat} (hi : i < g.es.length) : Way g.lat.length (wayE g w i) := by
  obtain ⟨hm, hf, ht, _, _⟩ := Gr.edge h hi
  have := g.wt_bd h hm
  unfold wayE
  refine hw.set hf ht ?_ ?_
  · have := hw.lo _ _ hf ht; simp only [FAR] at *; omega
  · have := hw.hi _ _ hf ht; simp only [FAR] at *; omega
theorem wayEs_ok {g : Gr} (h : g.OK) : ∀ i, i ≤ g.es.length → Way g.lat.length (wayEs g i)
  | 0, _ => way_way0 _
  | i + 1, hi => by rw [wayEs_succ]; exact wayE_ok h (wayEs_ok h i (by omega)) (by omega)
theorem fw1_ok {n m i k : Nat} {w : List (List Int)} (hw : Way n w) (hi : i < n) (hk : k < n) : Way n (fw1 m i w k) := by
  unfold fw1
  split
  · refine hw.set hi hk (Int.le_max_left _ _) ?_
    have := hw.hi i k hi hk
    simp only [FAR] at *; omega
  · exact hw
theorem fwK_ok {n m i : Nat} {w : List (List Int)} (hw : Way n w) (hi : i < n) : ∀ k, k ≤ n → Way n (fwK m i w k)
  | 0, _ => hw
  | k + 1, hk => by rw [fwK_succ]; exact fw1_ok (fwK_ok hw hi k (by omega)) hi (by omega)
theorem fwI_ok {n m : Nat} {w : List (List Int)} (hw : Way n w) : ∀ i, i ≤ n → Way n (fwI n m w i)
  | 0, _ => hw
  | i + 1, hi => by rw [fwI_succ]; exact fwK_ok (fwI_ok hw i (by omega)) (by omega) n (Nat.le_refl _)
theorem fwM_ok {g : Gr} (h : g.OK) : ∀ m, Way g.lat.length (fwM g m)
  | 0 => wayEs_ok h _ (Nat.le_refl _)
  | m + 1 => by rw [fwM_succ]; exact fwI_ok (fwM_ok h m) _ (Nat.le_refl _)

theorem pot_E {g : Gr} (h : g.OK) {s : BF} (hq : Quiet g s) {w : List (List Int)} (hw : Way g.lat.length w) (hp : Pot g s.F w) {i : Nat} (hi : i < g.es.length) : Pot g s.F (wayE g w i) := by
  obtain ⟨hm, hf, ht, _, _⟩ := Gr.edge h hi
  intro a b ha hb hl
  unfold wayE at hl ⊢
  rw [wa_mset hw.sq hf ht] at hl ⊢
  split at hl
  · rename_i hc
    rw [if_pos hc]
    obtain ⟨rfl, rfl⟩ := hc
    rcases Int.le_total (wa w (g.es.getD i default).f.toNat (g.es.getD i default).t.toNat) (g.wt (g.es.getD i default)) with h1 | h1
    · rw [Int.min_eq_left h1] at hl ⊢; exact hp _ _ ha hb hl
    · rw [Int.min_eq_right h1]
      have := hq _ hm
      unfold Gr.W at this
      omega
  · rename_i hc
    rw [if_neg hc]
    exact hp a b ha hb hl
theorem pot_1 {g : Gr} {F : Nat → Int} {w : List (List Int)} (hw : Way g.lat.length w) (hp : Pot g F w) {m i k : Nat} (hm : m < g.lat.length) (hi : i < g.lat.length) (hk : k < g.lat.length) : Pot g F (fw1 m i w k) := by
  unfold fw1
  split
  · rename_i hc
    intro a b ha hb hl
    rw [wa_mset hw.sq hi hk] at hl ⊢
    split at hl
    · rename_i hab
      rw [if_pos hab]
      obtain ⟨rfl, rfl⟩ := hab
      have h1 := hp i m hi hm hc.1
      have h2 := hp m k hm hk hc.2
      obtain ⟨z, hz⟩ : ∃ z, min (wa w i k) (wa w i m + wa w m k) = z := ⟨_, rfl⟩
      rw [hz] at hl ⊢
      have h3 : F k - F i ≤ (g.nn + 1) * z - 1 ∨ z = FAR := by
        rcases Int.le_total (wa w i k) (wa w i m + wa w m k) with h4 | h4
        · rw [Int.min_eq_left h4] at hz
          by_cases h5 : wa w i k < FAR
          · left; rw [← hz]; exact hp i k hi hk h5
          · right; have := hw.hi i k hi hk; omega
        · rw [Int.min_eq_right h4] at hz
          left
          rw [← hz, Int.mul_add]
          omega
      rcases h3 with h3 | h3
      · have h4 : (g.nn + 1) * z ≤ (g.nn + 1) * max (-FAR) z := Int.mul_le_mul_of_nonneg_left (Int.le_max_right _ _) (by unfold Gr.nn; omega)
        omega
      · rw [h3] at hl
        simp only [FAR] at hl
        omega
    · rename_i hab
      rw [if_neg hab]
      exact hp a b ha hb hl
  · exact hp
theorem pot_K {g : Gr} {F : Nat → Int} {w : List (List Int)} (hw : Way g.lat.length w) (hp : Pot g F w) {m i : Nat} (hm : m < g.lat.length) (hi : i < g.lat.length) : ∀ k, k ≤ g.lat.length → Pot g F (fwK m i w k)
  | 0, _ => hp
  | k + 1, hk => by rw [fwK_succ]; exact pot_1 (fwK_ok hw hi k (by omega)) (pot_K hw hp hm hi k (by omega)) hm hi (by omega)
theorem pot_I {g : Gr} {F : Nat → Int} {w : List (List Int)} (hw : Way g.lat.length w) (hp : Pot g F w) {m : Nat} (hm : m < g.lat.length) : ∀ i, i ≤ g.lat.length → Pot g F (fwI g.lat.length m w i)
  | 0, _ => hp
  | i + 1, hi => by rw [fwI_succ]; exact pot_K (fwI_ok hw i (by omega)) (pot_I hw hp hm i (by omega)) hm (by omega) _ (Nat.le_refl _)
theorem pot_Es {g : Gr} (h : g.OK) {s : BF} (hq : Quiet g s) : ∀ i, i ≤ g.es.length → Pot g s.F (wayEs g i)
  | 0, _ => fun a b ha hb hl => by
    have : wa (wayEs g 0) a b = FAR := way0_at ha hb
    omega
  | i + 1, hi => by rw [wayEs_succ]; exact pot_E h hq (wayEs_ok h i (by omega)) (pot_Es h hq i (by omega)) (by omega)
theorem pot_M {g : Gr} (h : g.OK) {s : BF} (hq : Quiet g s) : ∀ m, m ≤ g.lat.length → Pot g s.F (fwM g m)
  | 0, _ => pot_Es h hq _ (Nat.le_refl _)
  | m + 1, hm => by rw [fwM_succ]; exact pot_I (fwM_ok h m) (pot_M h hq m (by omega)) (by omega) _ (Nat.le_refl _)
theorem quiet_long {g : Gr} (h : g.OK) {s : BF} (hq : Quiet g s) : g.short = false := by
  cases hs : g.short with
  | false => rfl
  | true =>
    simp only [Gr.short, List.any_eq_true, List.mem_range, decide_eq_true_eq] at hs
    obtain ⟨i, hi, hle⟩ := hs
    have := pot_M h hq g.lat.length (Nat.le_refl _) i i hi hi (by simp only [FAR]; omega)
    have h2 : (g.nn + 1) * wa (fwM g g.lat.length) i i ≤ 0 := Int.mul_nonpos_of_nonneg_of_nonpos (by unfold Gr.nn; omega) hle
    omega

/-! The other way round: a closed way of few edges that is too short is found. -/
inductive Wk (g : Gr) (m : Nat) : Nat → Nat → Nat → Int → Prop
  | edge (e : Edg) (he : e ∈ g.es) : Wk g m e.f.toNat e.t.toNat 1 (g.wt e)
  | comp {i j k l1 l2 : Nat} {s1 s2 : Int} (h1 : Wk g m i j l1 s1) (h2 : Wk g m j k l2 s2) (hj : j < m) : Wk g m i k (l1 + l2) (s1 + s2)
theorem Wk.bd {g : Gr} (h : g.OK) {m i k l : Nat} {s : Int} (w : Wk g m i k l s) : i < g.lat.length ∧ k < g.lat.length ∧ 1 ≤ l ∧ -((l : Int) * 4096) ≤ s ∧ s ≤ (l : Int) * 1048576 := by
  induction w with
  | edge e he =>
    have := g.wt_bd h he
    have := h.es e he
    omega
  | comp h1 h2 hj ih1 ih2 => omega
theorem Wk.up {g : Gr} {m m' : Nat} (hm : m ≤ m') {i k l : Nat} {s : Int} (w : Wk g m i k l s) : Wk g m' i k l s := by
  induction w with
  | edge e he => exact .edge e he
  | comp h1 h2 hj ih1 ih2 => exact .comp ih1 ih2 (by omega)

/-- A way over the nodes up to m: one over the nodes below m, or one to m and one from m; where no way from m to m is too short. -/
theorem Wk.split {g : Gr} {m N : Nat} (hpos : ∀ l s, l ≤ N → Wk g m m m l s → 0 ≤ s) {i k l : Nat} {s : Int} (w : Wk g (m + 1) i k l s) : l ≤ N →
    (∃ l' s', l' ≤ l ∧ s' ≤ s ∧ Wk g m i k l' s') ∨ ∃ l1 s1 l2 s2, l1 + l2 ≤ l ∧ s1 + s2 ≤ s ∧ Wk g m i m l1 s1 ∧ Wk g m m k l2 s2 := by
  induction w with
  | edge e he => intro _; exact .inl ⟨1, _, Nat.le_refl _, Int.le_refl _, .edge e he⟩
  | @comp i j k l1 l2 s1 s2 h1 h2 hj ih1 ih2 =>
    intro hN
    have hl1 : l1 ≤ N := by omega
    have hl2 : l2 ≤ N := by omega
    by_cases hjm : j = m
    · subst hjm
      have A : ∃ l' s', l' ≤ l1 ∧ s' ≤ s1 ∧ Wk g j i j l' s' := by
        rcases ih1 hl1 with h | ⟨a, sa, b, sb, h3, h4, h5, h6⟩
        · exact h
        · have := hpos b sb (by omega) h6
          exact ⟨a, sa, by omega, by omega, h5⟩
      have B : ∃ l' s', l' ≤ l2 ∧ s' ≤ s2 ∧ Wk g j j k l' s' := by
        rcases ih2 hl2 with h | ⟨a, sa, b, sb, h3, h4, h5, h6⟩
        · exact h
        · have := hpos a sa (by omega) h5
          exact ⟨b, sb, by omega, by omega, h6⟩
      obtain ⟨la, sa, h3, h4, h5⟩ := A
      obtain ⟨lb, sb, h6, h7, h8⟩ := B
      exact .inr ⟨la, sa, lb, sb, by omega, by omega, h5, h8⟩
    · have hjl : j < m := by omega
      rcases ih1 hl1 with ⟨la, sa, h3, h4, h5⟩ | ⟨la, sa, lb, sb, h3, h4, h5, h6⟩
      · rcases ih2 hl2 with ⟨lc, sc, h7, h8, h9⟩ | ⟨lc, sc, ld, sd, h7, h8, h9, h10⟩
        · exact .inl ⟨la + lc, sa + sc, by omega, by omega, .comp h5 h9 hjl⟩
        · exact .inr ⟨la + lc, sa + sc, ld, sd, by omega, by omega, .comp h5 h9 hjl, h10⟩
      · rcases ih2 hl2 with ⟨lc, sc, h7, h8, h9⟩ | ⟨lc, sc, ld, sd, h7, h8, h9, h10⟩
        · exact .inr ⟨la, sa, lb + lc, sb + sc, by omega, by omega, h5, .comp h6 h9 hjl⟩
        · have := hpos (lb + lc) (sb + sc) (by omega) (.comp h6 h9 hjl)
          exact .inr ⟨la, sa, ld, sd, by omega, by omega, h5, h10⟩

/-- Later ways are no longer. -/
def Le (n : Nat) (w w' : List (List Int)) : Prop := ∀ a b, a < n → b < n → wa w' a b ≤ wa w a b
def Good (n m : Nat) (w w' : List (List Int)) (i k : Nat) : Prop := wa w i m < FAR → wa w m k < FAR → wa w' i k ≤ max (-FAR) (wa w i m + wa w m k)
theorem fw1_le {n m i k : Nat} {w : List (List Int)} (hw : Way n w) (hi : i < n) (hk : k < n) : Le n w (fw1 m i w k) := by
  intro a b ha hb
  unfold fw1
  split
  · rw [wa_mset hw.sq hi hk]
    split
    · rename_i hc
      obtain ⟨rfl, rfl⟩ := hc
      have := hw.lo i k hi hk
      omega
    · exact Int.le_refl _
  · exact Int.le_refl _
theorem fw1_good {n m i k : Nat} {w0 w : List (List Int)} (hw : Way n w) (hle : Le n w0 w) (hm : m < n) (hi : i < n) (hk : k < n) : Good n m w0 (fw1 m i w k) i k := by
  intro h1 h2
  have h3 := hle i m hi hm
  have h4 := hle m k hm hk
  unfold fw1
  rw [if_pos ⟨by omega, by omega⟩, wa_mset hw.sq hi hk, if_pos ⟨rfl, rfl⟩]
  omega
theorem Le.good {n m : Nat} {w0 w w' : List (List Int)} (h : Le n w w') {i k : Nat} (hi : i < n) (hk : k < n) (hg : Good n m w0 w i k) : Good n m w0 w' i k := fun h1 h2 => Int.le_trans (h i k hi hk) (hg h1 h2)
theorem Le.trans {n : Nat} {a b c : List (List Int)} (h : Le n a b) (k : Le n b c) : Le n a c := fun i j hi hj => Int.le_trans (k i j hi hj) (h i j hi hj)
theorem fwK_good {n m i : Nat} {w0 w : List (List Int)} (hw : Way n w) (hle : Le n w0 w) (hm : m < n) (hi : i < n) : ∀ k, k ≤ n → Le n w (fwK m i w k) ∧ ∀ k', k' < k → Good n m w0 (fwK m i w k) i k'
  | 0, _ => ⟨fun _ _ _ _ => Int.le_refl _, fun k' h => by omega⟩
  | k + 1, hk => by
    obtain ⟨h1, h2⟩ := fwK_good hw hle hm hi k (by omega)
    have hok := fwK_ok (m := m) hw hi k (by omega)
    have h3 := fw1_le (m := m) hok hi (k := k) (by omega)
    rw [fwK_succ]
    refine ⟨h1.trans h3, fun k' hk' => ?_⟩
    by_cases he : k' = k
    · subst he; exact fw1_good hok (hle.trans h1) hm hi (by omega)
    · exact h3.good hi (by omega) (h2 k' (by omega))
theorem fwI_good {n m : Nat} {w : List (List Int)} (hw : Way n w) (hm : m < n) : ∀ i, i ≤ n → Le n w (fwI n m w i) ∧ ∀ i' k', i' < i → k' < n → Good n m w (fwI n m w i) i' k'
  | 0, _ => ⟨fun _ _ _ _ => Int.le_refl _, fun i' k' h => by omega⟩
  | i + 1, hi => by
    obtain ⟨h1, h2⟩ := fwI_good hw hm i (by omega)
    have hok := fwI_ok (m := m) hw i (by omega)
    obtain ⟨h3, h4⟩ := fwK_good (w0 := w) hok h1 hm (i := i) (by omega) n (Nat.le_refl _)
    rw [fwI_succ]
    refine ⟨h1.trans h3, fun i' k' hi' hk' => ?_⟩
    by_cases he : i' = i
    · subst he; exact h4 k' hk'
    · exact h3.good (by omega) hk' (h2 i' k' (by omega) hk')
theorem wayE_le {g : Gr} (h : g.OK) {w : List (List Int)} (hw : Way g.lat.length w) {i : Nat} (hi : i < g.es.length) : Le g.lat.length w (wayE g w i) := by
  obtain ⟨hm, hf, ht, _, _⟩ := Gr.edge h hi
  intro a b ha hb
  unfold wayE
  rw [wa_mset hw.sq hf ht]
  split
  · rename_i hc
    obtain ⟨rfl, rfl⟩ := hc
    exact Int.min_le_left _ _
  · exact Int.le_refl _
theorem wayEs_at {g : Gr} (h : g.OK) : ∀ i, i ≤ g.es.length → ∀ j, j < i → wa (wayEs g i) (g.es.getD j default).f.toNat (g.es.getD j default).t.toNat ≤ g.wt (g.es.getD j default)
  | 0, _, j, hj => by omega
  | i + 1, hi, j, hj => by
    have hok := wayEs_ok h i (by omega)
    rw [wayEs_succ]
    by_cases he : j = i
    · subst he
      obtain ⟨hm, hf, ht, _, _⟩ := Gr.edge h (j := j) (by omega)
      unfold wayE
      rw [wa_mset hok.sq hf ht, if_pos ⟨rfl, rfl⟩]
      exact Int.min_le_right _ _
    · obtain ⟨hm, hf, ht, _, _⟩ := Gr.edge h (j := j) (by omega)
      exact Int.le_trans (wayE_le h hok (by omega) _ _ hf ht) (wayEs_at h i (by omega) j (by omega))
theorem fwM_le {g : Gr} (h : g.OK) (m : Nat) : ∀ d, m + d ≤ g.lat.length → Le g.lat.length (fwM g m) (fwM g (m + d))
  | 0, _ => fun _ _ _ _ => Int.le_refl _
  | d + 1, hd => by
    have := (fwI_good (fwM_ok h (m + d)) (m := m + d) (by omega) g.lat.length (Nat.le_refl _)).1
    rw [← fwM_succ] at this
    exact (fwM_le h m d (by omega)).trans this
theorem fwM_wk {g : Gr} (h : g.OK) (hpos : ∀ i, i < g.lat.length → 0 < wa (fwM g g.lat.length) i i) : ∀ m, m ≤ g.lat.length → ∀ {i k l : Nat} {s : Int}, Wk g m i k l s → l ≤ g.lat.length → wa (fwM g m) i k ≤ s
  | 0, _, i, k, l, s, w, hl => by
    cases w with
    | edge e he =>
      obtain ⟨j, hj, rfl⟩ := List.mem_iff_getElem.1 he
      have := wayEs_at h g.es.length (Nat.le_refl _) j hj
      rw [getD_lt _ _ hj] at this
      exact this
    | comp h1 h2 hj => omega
  | m + 1, hm, i, k, l, s, w, hl => by
    have ih := @fwM_wk g h hpos m (by omega)
    have hw := fwM_ok h m
    obtain ⟨hle, hgd⟩ := fwI_good hw (m := m) (by omega) g.lat.length (Nat.le_refl _)
    rw [← fwM_succ] at hle hgd
    have hbd := w.bd h
    rcases Wk.split (N := g.lat.length) (fun l s hl w => by
      have h1 := ih w hl
      have h2 := fwM_le h m (g.lat.length - m) (by omega) m m (by omega) (by omega)
      rw [show m + (g.lat.length - m) = g.lat.length by omega] at h2
      have h3 := hpos m (by omega)
      omega) w hl with ⟨l', s', h1, h2, h3⟩ | ⟨l1, s1, l2, s2, h1, h2, h3, h4⟩
    · have := ih h3 (by omega)
      have := hle i k hbd.1 hbd.2.1
      omega
    · have a := ih h3 (by omega)
      have b := ih h4 (by omega)
      have ba := h3.bd h
      have bb := h4.bd h
      have hn := h.n
      have := hgd i k hbd.1 hbd.2.1 (by simp only [FAR]; omega) (by simp only [FAR]; omega)
      simp only [FAR] at this
      omega

/-- The cycle that is found, as a closed way. -/
theorem back_wk {g : Gr} (h : g.OK) {s : BF} {x : Nat} (c : Cyc g s x) : ∀ k, 0 < k → ∃ S, Wk g g.lat.length (g.back s k x) x k S ∧ s.F (g.back s k x) + ((g.nn + 1) * S - k) ≤ s.F x
  | 0, hk => by omega
  | k + 1, _ => by
    obtain ⟨hlt, j, hj, hB, ht, hF⟩ := c.way k
    obtain ⟨hm, hf, _, _, _⟩ := Gr.edge h hj
    have hp : g.back s (k + 1) x = (g.es.getD j default).f.toNat := by
      show g.pr s (g.back s k x) = _
      unfold Gr.pr; rw [hB]; simp
    have hW : g.W (g.es.getD j default) = (g.nn + 1) * g.wt (g.es.getD j default) - 1 := rfl
    have hE := Wk.edge (m := g.lat.length) _ hm
    rw [ht] at hE
    rw [hp]
    by_cases hk0 : k = 0
    · subst hk0
      refine ⟨_, hE, ?_⟩
      have : g.back s 0 x = x := rfl
      rw [this] at hF
      omega
    · obtain ⟨S, h1, h2⟩ := back_wk h c k (by omega)
      refine ⟨g.wt (g.es.getD j default) + S, by rw [Nat.add_comm k 1]; exact .comp hE h1 hlt, ?_⟩
      rw [Int.mul_add]
      omega
theorem cyc_short {g : Gr} (h : g.OK) {s : BF} {x : Nat} (c : Cyc g s x) : g.short = true := by
  obtain ⟨k, hk0, hkn, hkx⟩ := c.per
  obtain ⟨S, h1, h2⟩ := back_wk h c k hk0
  rw [hkx] at h1 h2
  have hS : S ≤ 0 := by
    refine Classical.byContradiction fun hS => ?_
    have : (g.nn + 1) * 1 ≤ (g.nn + 1) * S := Int.mul_le_mul_of_nonneg_left (by omega) (by unfold Gr.nn; omega)
    unfold Gr.nn at *
    omega
  cases hs : g.short with
  | true => rfl
  | false =>
    simp only [Gr.short, List.any_eq_false, List.mem_range, decide_eq_true_eq] at hs
    have := fwM_wk h (fun i hi => by have := hs i hi; omega) g.lat.length (Nat.le_refl _) h1 hkn
    have := hs x (h1.bd h).1
    omega

/-- **The rounds end in silence just where no cycle is too short.** -/
theorem run_short {g : Gr} (h : g.OK) : (g.run.last = -1 ∧ g.short = false ∧ Quiet g g.run) ∨ ∃ v : Nat, g.run.last = (v : Int) ∧ v < g.lat.length ∧ g.short = true ∧ (∀ k, OnWay g g.run (g.back g.run k v)) ∧ Cyc g g.run (g.back g.run (g.lat.length + 1) v) := by
  rcases run_end h with ⟨h1, h2⟩ | ⟨st, I, v, hv, hl, hst⟩
  · exact .inl ⟨h1, quiet_long h h2, h2⟩
  · obtain ⟨h3, h4⟩ := cycle_of h I hv hst
    exact .inr ⟨v, hl, hv, cyc_short h h4, h3, h4⟩

end Go.Proofs.Ytcidkahhfdcddaa

/- The rounds, one after the other; the cycle that is handed back. No program in sight. -/
namespace Go.Proofs.Ytcidkahhfdcddaa
set_option linter.unusedVariables false
set_option linter.unusedSimpArgs false

/-- After k rounds. -/
def Gr.stt (g : Gr) : Nat → BF
  | 0 => g.start
  | k + 1 => pass g (g.stt k)
def Gr.loud (g : Gr) (k : Nat) : Prop := ∀ j, 0 < j → j ≤ k → 0 ≤ (g.stt j).last
theorem run_stt {g : Gr} : ∀ (k : Nat), k ≤ g.lat.length + 1 → g.loud k → g.run = rounds g (g.lat.length + 1 - k) (g.stt k)
  | 0, _, _ => rfl
  | k + 1, hk, hl => by
    rw [run_stt k (by omega) fun j h1 h2 => hl j h1 (by omega)]
    obtain ⟨d, hd⟩ : ∃ d, g.lat.length + 1 - k = d + 1 := ⟨g.lat.length - k, by omega⟩
    rw [hd, show g.lat.length + 1 - (k + 1) = d by omega]
    show (if (pass g (g.stt k)).last < 0 then pass g (g.stt k) else rounds g d (pass g (g.stt k))) = _
    have := hl (k + 1) (by omega) (Nat.le_refl _)
    have e : g.stt (k + 1) = pass g (g.stt k) := rfl
    rw [e] at this ⊢
    rw [if_neg (by omega)]
theorem run_full {g : Gr} (hl : g.loud (g.lat.length + 1)) : g.run = g.stt (g.lat.length + 1) := by
  rw [run_stt _ (Nat.le_refl _) hl]
  simp [rounds]
theorem run_quiet {g : Gr} {k : Nat} (hk : k ≤ g.lat.length) (hl : g.loud k) (hq : (g.stt (k + 1)).last < 0) : g.run = g.stt (k + 1) := by
  rw [run_stt k (by omega) hl]
  obtain ⟨d, hd⟩ : ∃ d, g.lat.length + 1 - k = d + 1 := ⟨g.lat.length - k, by omega⟩
  rw [hd]
  show (if (pass g (g.stt k)).last < 0 then pass g (g.stt k) else rounds g d (pass g (g.stt k))) = _
  exact if_pos hq
theorem inv_stt {g : Gr} (h : g.OK) : ∀ k, ∃ st, Inv g (k + 1) 0 { g.stt k with last := -1 } st
  | 0 => ⟨_, inv_start⟩
  | k + 1 => by
    obtain ⟨st, I⟩ := inv_stt h k
    obtain ⟨st', I'⟩ := inv_passTo h (by omega) I g.es.length (Nat.le_refl _)
    exact ⟨st', inv_next (by omega) I'⟩
theorem passTo_facts {g : Gr} (h : g.OK) {k i : Nat} (hk : k ≤ g.lat.length) (hi : i ≤ g.es.length) : (passTo g (g.stt k) i).far.length = g.lat.length ∧ (passTo g (g.stt k) i).by_.length = g.lat.length ∧
    (∀ v, -1152921504606846976 ≤ (passTo g (g.stt k) i).far.getD v 0 ∧ (passTo g (g.stt k) i).far.getD v 0 ≤ 0) ∧ -1 ≤ (passTo g (g.stt k) i).last := by
  obtain ⟨st, I⟩ := inv_stt h k
  obtain ⟨st', I'⟩ := inv_passTo h (by omega) I i hi
  refine ⟨I'.lenf, I'.lenb, fun v => ⟨?_, I'.top v⟩, ?_⟩
  · have h1 := I'.low v
    have h2 : (k + 1 - 1) * g.es.length + i ≤ 4097 * 16384 := by
      have a : (k + 1 - 1) * g.es.length ≤ 4096 * 16384 := Nat.mul_le_mul (by have := h.n; omega) h.m
      have := h.m
      omega
    have h3 : BF.F (passTo g (g.stt k) i) v = (passTo g (g.stt k) i).far.getD v 0 := rfl
    omega
  · rcases I'.last with ⟨h1, _⟩ | ⟨v, _, h1, _⟩ <;> omega
theorem stt_facts {g : Gr} (h : g.OK) {k : Nat} : (g.stt k).far.length = g.lat.length ∧ (g.stt k).by_.length = g.lat.length := by
  obtain ⟨st, I⟩ := inv_stt h k
  exact ⟨I.lenf, I.lenb⟩
theorem passTo_step {g : Gr} {s : BF} {i : Nat} {e : Edg} (he : g.es.getD i default = e) : passTo g s (i + 1) = if (passTo g s i).far.getD e.f.toNat 0 + ((g.lat.length : Int) + 1) * (e.d - g.lat.getD e.f.toNat 0) - 1 < (passTo g s i).far.getD e.t.toNat 0
    then ⟨(passTo g s i).far.set e.t.toNat ((passTo g s i).far.getD e.f.toNat 0 + ((g.lat.length : Int) + 1) * (e.d - g.lat.getD e.f.toNat 0) - 1), (passTo g s i).by_.set e.t.toNat i, e.t⟩ else passTo g s i := by
  rw [passTo_succ]
  unfold relax
  simp only [he, Gr.W, Gr.wt, Gr.nn, BF.F, Int.add_sub_assoc]

def Gr.top (g : Gr) : Nat := g.run.last.toNat
/-- Where the way back has come to. -/
def Gr.knot (g : Gr) : Nat := g.back g.run (g.lat.length + 1) g.top
def Gr.per (g : Gr) : Nat := (((List.range g.lat.length).find? fun k => Nat.beq (g.back g.run (k + 1) g.knot) g.knot).getD 0) + 1
abbrev Gr.looped (g : Gr) : Bool := decide (g.formed = 0) && g.short
def Gr.cyc (g : Gr) : List Int := if g.looped then (((List.range g.per).map fun i => g.run.B (g.back g.run i g.knot)).reverse) else []
theorem per_spec {g : Gr} (c : Cyc g g.run g.knot) : 0 < g.per ∧ g.per ≤ g.lat.length ∧ g.back g.run g.per g.knot = g.knot ∧ ∀ k, 0 < k → k < g.per → g.back g.run k g.knot ≠ g.knot := by
  obtain ⟨p, hp0, hpn, hp⟩ := c.per
  unfold Gr.per
  cases hf : (List.range g.lat.length).find? fun k => Nat.beq (g.back g.run (k + 1) g.knot) g.knot with
  | none =>
    rw [List.find?_eq_none] at hf
    have := hf (p - 1) (by simp; omega)
    rw [show p - 1 + 1 = p by omega, hp] at this
    simp at this
  | some q =>
    obtain ⟨h1, as, bs, h2, h3⟩ := List.find?_eq_some_iff_append.1 hf
    have hq : q ∈ List.range g.lat.length := by rw [h2]; simp
    refine ⟨by simp, by simp at hq; simp; omega, by simpa using Nat.eq_of_beq_eq_true h1, fun k hk0 hkq he => ?_⟩
    simp only [Option.getD_some] at hkq
    have hla : as.length = q := by
      have := congrArg (fun l => l[as.length]?) h2
      simp at this
      have h4 : as.length < g.lat.length := by
        have := congrArg List.length h2
        simp at this; omega
      rw [List.getElem?_range h4] at this
      simpa using this
    have hmem : k - 1 ∈ as := by
      have h5 : k - 1 < as.length := by omega
      have h6 := congrArg (fun l => l[k - 1]?) h2
      simp only [List.getElem?_append_left h5] at h6
      rw [List.getElem?_range (by simp at hq; omega)] at h6
      exact List.mem_of_getElem? h6.symm
    have := h3 (k - 1) hmem
    rw [show k - 1 + 1 = k by omega, he] at this
    simp at this

end Go.Proofs.Ytcidkahhfdcddaa

/- Longest ways by rounds over arcs, in plain Lean: least positions, or a cycle along which they grow. No program in sight. -/
namespace Go.Proofs.Ytcidkahhfdcddaa
set_option linter.unusedVariables false
set_option linter.unusedSimpArgs false

structure Arc where
  f : Int
  t : Int
  by_ : Int
  e : Int
  b : Bool
  s : Int
instance : Inhabited Arc := ⟨⟨0, 0, 0, 0, false, 0⟩⟩
structure LP where
  at_ : List Int
  lst : List Arc
  node : Int
abbrev LP.A (s : LP) (v : Nat) : Int := s.at_.getD v 0
abbrev LP.L (s : LP) (v : Nat) : Arc := s.lst.getD v default
def lrelax (s : LP) (a : Arc) : LP := if s.A a.t.toNat < s.A a.f.toNat + a.by_ then ⟨s.at_.set a.t.toNat (s.A a.f.toNat + a.by_), s.lst.set a.t.toNat a, a.t⟩ else s
structure Net where
  n : Nat
  as : List Arc
  B : Int
def Net.passTo (N : Net) (s : LP) (i : Nat) : LP := (N.as.take i).foldl lrelax { s with node := -1 }
def Net.pass (N : Net) (s : LP) : LP := N.passTo s N.as.length
theorem Net.passTo_succ (N : Net) (s : LP) {i : Nat} (h : i < N.as.length) : N.passTo s (i + 1) = lrelax (N.passTo s i) (N.as.getD i default) := by
  unfold Net.passTo
  rw [List.take_add_one, List.getElem?_eq_getElem h, List.foldl_append, getD_lt _ _ h]
  rfl
def Net.rounds (N : Net) : Nat → LP → LP
  | 0, s => s
  | k + 1, s => if (N.pass s).node < 0 then N.pass s else N.rounds k (N.pass s)
def Net.start (N : Net) : LP := ⟨List.replicate N.n 0, List.replicate N.n default, -1⟩
def Net.run (N : Net) : LP := N.rounds (N.n + 1) N.start
structure Net.OK (N : Net) : Prop where
  as : ∀ a ∈ N.as, (0 ≤ a.f ∧ a.f < N.n) ∧ (0 ≤ a.t ∧ a.t < N.n) ∧ -N.B ≤ a.by_ ∧ a.by_ ≤ N.B

theorem getDA_set {l : List Arc} {i j : Nat} {x : Arc} (h : i < l.length) : (l.set i x).getD j default = if i = j then x else l.getD j default := by
  simp only [List.getD_eq_getElem?_getD, List.getElem?_set]
  by_cases hij : i = j
  · subst hij; simp [h]
  · simp [hij]

/-- Round r, the arcs below i having been looked at; 'st': the round in which a node was reached last. -/
structure LInv (N : Net) (r i : Nat) (s : LP) (st : Nat → Nat) : Prop where
  lenf : s.at_.length = N.n
  lenb : s.lst.length = N.n
  le : ∀ v, st v ≤ r
  set : ∀ v, v < N.n → 0 < st v → s.L v ∈ N.as ∧ (s.L v).t.toNat = v ∧ s.A v ≤ s.A (s.L v).f.toNat + (s.L v).by_ ∧ st v ≤ st (s.L v).f.toNat + 1
  rel : ∀ j, j < N.as.length → (j < i → s.A (N.as.getD j default).f.toNat + (N.as.getD j default).by_ ≤ s.A (N.as.getD j default).t.toNat ∨ r ≤ st (N.as.getD j default).f.toNat) ∧
    (i ≤ j → r ≤ 1 ∨ s.A (N.as.getD j default).f.toNat + (N.as.getD j default).by_ ≤ s.A (N.as.getD j default).t.toNat ∨ r ≤ st (N.as.getD j default).f.toNat + 1)
  last : (s.node = -1 ∧ ∀ v, st v < r) ∨ ∃ v, v < N.n ∧ s.node = (v : Int) ∧ st v = r
  low : ∀ v, 0 ≤ s.A v
  top : ∀ v, s.A v ≤ (((r - 1) * N.as.length + i : Nat) : Int) * N.B
  kind : ∀ v, v < N.n → s.L v ∈ N.as ∨ s.L v = default
  tau : ∃ (τ : Nat → Nat) (c : Nat), (∀ v, τ v ≤ c) ∧ ∀ v, v < N.n → 0 < st v → τ v ≤ τ (s.L v).f.toNat → s.A v + 1 ≤ s.A (s.L v).f.toNat + (s.L v).by_

theorem Net.arc {N : Net} (h : N.OK) {j : Nat} (hj : j < N.as.length) : N.as.getD j default ∈ N.as ∧ (N.as.getD j default).f.toNat < N.n ∧ (N.as.getD j default).t.toNat < N.n ∧ 0 ≤ (N.as.getD j default).f ∧ 0 ≤ (N.as.getD j default).t := by
  have hm : N.as.getD j default ∈ N.as := by rw [getD_lt _ _ hj]; exact List.getElem_mem hj
  have := h.as _ hm
  exact ⟨hm, by omega, by omega, by omega, by omega⟩

theorem linv_step {N : Net} (h : N.OK) {r i : Nat} {s : LP} {st : Nat → Nat} (hr : 1 ≤ r) (hi : i < N.as.length) (I : LInv N r i s st) : ∃ st', LInv N r (i + 1) (lrelax s (N.as.getD i default)) st' := by
  obtain ⟨e, he⟩ : ∃ e, N.as.getD i default = e := ⟨_, rfl⟩
  obtain ⟨hm, hf, ht, hf0, ht0⟩ := he ▸ Net.arc h hi
  have hW := (h.as e hm).2.2
  rw [he]
  unfold lrelax
  have hmB : (((r - 1) * N.as.length + (i + 1) : Nat) : Int) * N.B = (((r - 1) * N.as.length + i : Nat) : Int) * N.B + N.B := by
    rw [show (((r - 1) * N.as.length + (i + 1) : Nat) : Int) = (((r - 1) * N.as.length + i : Nat) : Int) + 1 by omega, Int.add_mul, Int.one_mul]
  have htop : ∀ v, s.A v ≤ (((r - 1) * N.as.length + (i + 1) : Nat) : Int) * N.B := fun v => by have := I.top v; rw [hmB]; omega
  by_cases hd : s.A e.t.toNat < s.A e.f.toNat + e.by_
  · rw [if_pos hd]
    obtain ⟨d, hde⟩ : ∃ d, s.A e.f.toNat + e.by_ = d := ⟨_, rfl⟩
    rw [hde] at hd ⊢
    have hF : ∀ v, LP.A ⟨s.at_.set e.t.toNat d, s.lst.set e.t.toNat e, e.t⟩ v = if e.t.toNat = v then d else s.A v := fun v => getD_set (by rw [I.lenf]; exact ht)
    have hB : ∀ v, LP.L ⟨s.at_.set e.t.toNat d, s.lst.set e.t.toNat e, e.t⟩ v = if e.t.toNat = v then e else s.L v := fun v => getDA_set (by rw [I.lenb]; exact ht)
    have hle : ∀ v, s.A v ≤ LP.A ⟨s.at_.set e.t.toNat d, s.lst.set e.t.toNat e, e.t⟩ v := fun v => by
      rw [hF]; split
      · rename_i hv; rw [← hv]; omega
      · exact Int.le_refl _
    refine ⟨fun v => if e.t.toNat = v then r else st v, ?_⟩
    refine { lenf := by simpa using I.lenf, lenb := by simpa using I.lenb, le := fun v => by split; exact Nat.le_refl _; exact I.le v, set := fun v hv hs => ?_, rel := fun j hj => ?_, last := .inr ⟨e.t.toNat, ht, by show e.t = _; omega, by simp⟩, low := fun v => Int.le_trans (I.low v) (hle v), top := fun v => ?_, kind := fun v hv => ?_, tau := ?_ }
    · by_cases hv' : e.t.toNat = v
      · rw [hB, if_pos hv']
        refine ⟨hm, hv', ?_, ?_⟩
        · rw [hF v, if_pos hv']
          have := hle e.f.toNat
          omega
        · rw [if_pos hv']
          by_cases h2 : e.t.toNat = e.f.toNat
          · rw [if_pos h2]; omega
          · rw [if_neg h2]
            have h3 := (I.rel i hi).2 (Nat.le_refl _)
            rw [he] at h3
            rcases h3 with h3 | h3 | h3
            · omega
            · omega
            · omega
      · rw [if_neg hv'] at hs
        obtain ⟨h1, h2, h3, h4⟩ := I.set v hv hs
        rw [hB, if_neg hv']
        refine ⟨h1, h2, ?_, ?_⟩
        · rw [hF v, if_neg hv']
          have := hle (s.L v).f.toNat
          omega
        · rw [if_neg hv']
          split
          · have := I.le v; omega
          · exact h4
    · have hFj : (¬ e.t.toNat = (N.as.getD j default).f.toNat) → s.A (N.as.getD j default).f.toNat + (N.as.getD j default).by_ ≤ s.A (N.as.getD j default).t.toNat →
          LP.A ⟨s.at_.set e.t.toNat d, s.lst.set e.t.toNat e, e.t⟩ (N.as.getD j default).f.toNat + (N.as.getD j default).by_ ≤ LP.A ⟨s.at_.set e.t.toNat d, s.lst.set e.t.toNat e, e.t⟩ (N.as.getD j default).t.toNat := fun hne h1 => by
        rw [hF (N.as.getD j default).f.toNat, if_neg hne]
        have := hle (N.as.getD j default).t.toNat
        omega
      by_cases hne : e.t.toNat = (N.as.getD j default).f.toNat
      · refine ⟨fun _ => .inr (by rw [if_pos hne]; exact Nat.le_refl _), fun _ => .inr (.inr (by rw [if_pos hne]; omega))⟩
      · simp only [if_neg hne]
        refine ⟨fun hji => ?_, fun hji => ?_⟩
        · by_cases hji' : j = i
          · subst hji'
            rw [he] at hne ⊢
            left
            rw [hF e.t.toNat, if_pos rfl, hF e.f.toNat, if_neg hne]
            omega
          · rcases (I.rel j hj).1 (by omega) with h1 | h1
            · exact .inl (hFj hne h1)
            · exact .inr h1
        · rcases (I.rel j hj).2 (by omega) with h1 | h1 | h1
          · exact .inl h1
          · exact .inr (.inl (hFj hne h1))
          · exact .inr (.inr h1)
    · rw [hF]
      split
      · have := I.top e.f.toNat; rw [hmB]; omega
      · exact htop v
    · rw [hB]
      split
      · exact .inl hm
      · exact I.kind v hv
    · obtain ⟨τ, c, hc, ht2⟩ := I.tau
      refine ⟨fun v => if e.t.toNat = v then c + 1 else τ v, c + 1, fun v => by dsimp only; split; exact Nat.le_refl _; have := hc v; omega, fun v hv hs hτ => ?_⟩
      dsimp only at hs hτ
      by_cases hv' : e.t.toNat = v
      · rw [hB, if_pos hv'] at hτ ⊢
        rw [if_pos hv'] at hτ
        rw [hF v, if_pos hv']
        by_cases h2 : e.t.toNat = e.f.toNat
        · rw [hF, if_pos h2]
          rw [← h2] at hde
          have hvv : s.A e.t.toNat = s.A e.f.toNat := by rw [← h2]
          omega
        · rw [if_neg h2] at hτ
          have := hc e.f.toNat; omega
      · rw [if_neg hv'] at hs hτ
        rw [hB, if_neg hv'] at hτ ⊢
        rw [hF v, if_neg hv']
        by_cases h2 : e.t.toNat = (s.L v).f.toNat
        · rw [hF, if_pos h2]
          have h3 := (I.set v hv hs).2.2.1
          rw [← h2] at h3
          omega
        · rw [if_neg h2] at hτ
          rw [hF, if_neg h2]
          exact ht2 v hv hs hτ
  · rw [if_neg hd]
    refine ⟨st, { lenf := I.lenf, lenb := I.lenb, le := I.le, set := I.set, rel := fun j hj => ⟨fun hji => ?_, fun hji => (I.rel j hj).2 (by omega)⟩, last := I.last, low := I.low, top := htop, kind := I.kind, tau := I.tau }⟩
    by_cases hji' : j = i
    · subst hji'
      rw [he]; left; omega
    · exact (I.rel j hj).1 (by omega)

theorem linv_start {N : Net} : LInv N 1 0 N.start fun _ => 0 := by
  have hF : ∀ v, N.start.A v = 0 := fun v => by simp [Net.start, LP.A, List.getD_eq_getElem?_getD, List.getElem?_replicate]; split <;> rfl
  have hL : ∀ v, N.start.L v = default := fun v => by simp [Net.start, LP.L, List.getD_eq_getElem?_getD, List.getElem?_replicate]; split <;> rfl
  exact { lenf := by simp [Net.start], lenb := by simp [Net.start], le := fun _ => by omega, set := fun v _ h => by omega, rel := fun j _ => ⟨fun h => by omega, fun _ => .inl (by omega)⟩, last := .inl ⟨rfl, fun _ => by omega⟩, low := fun v => by rw [hF]; omega, top := fun v => by rw [hF]; simp, kind := fun v _ => .inr (hL v), tau := ⟨fun _ => 0, 0, fun _ => Nat.le_refl _, fun v _ h => by omega⟩ }
theorem linv_next {N : Net} {r : Nat} {s : LP} {st : Nat → Nat} (hr : 1 ≤ r) (I : LInv N r N.as.length s st) : LInv N (r + 1) 0 { s with node := -1 } st :=
  { lenf := I.lenf, lenb := I.lenb, le := fun v => by have := I.le v; omega, set := I.set
    rel := fun j hj => ⟨fun h => by omega, fun _ => .inr (by
      rcases (I.rel j hj).1 hj with h | h
      · exact .inl h
      · exact .inr (by omega))⟩
    last := .inl ⟨rfl, fun v => by have := I.le v; omega⟩, low := I.low, kind := I.kind, tau := I.tau
    top := fun v => by
      have := I.top v
      have e : (r + 1 - 1) * N.as.length + 0 = (r - 1) * N.as.length + N.as.length := by
        obtain ⟨k, rfl⟩ : ∃ k, r = k + 1 := ⟨r - 1, by omega⟩
        simp [Nat.succ_mul]
      rw [e]; exact this }
theorem linv_passTo {N : Net} (h : N.OK) {r : Nat} {s : LP} {st : Nat → Nat} (hr : 1 ≤ r) (I : LInv N r 0 { s with node := -1 } st) : ∀ i, i ≤ N.as.length → ∃ st', LInv N r i (N.passTo s i) st'
  | 0, _ => ⟨st, by unfold Net.passTo; simpa using I⟩
  | i + 1, hi => by
    obtain ⟨st', I'⟩ := linv_passTo h hr I i (by omega)
    rw [N.passTo_succ s (by omega)]
    exact linv_step h hr (by omega) I'

/-- Positions that meet all arcs. -/
def Net.Meets (N : Net) (p : Nat → Int) : Prop := ∀ a ∈ N.as, p a.f.toNat + a.by_ ≤ p a.t.toNat
theorem lrounds_end {N : Net} (h : N.OK) : ∀ (k r : Nat) (s : LP) (st : Nat → Nat), 1 ≤ r → 1 ≤ k → LInv N r 0 { s with node := -1 } st →
    (((N.rounds k s).node = -1 ∧ N.Meets (N.rounds k s).A) ∨ ∃ st', LInv N (r + k - 1) N.as.length (N.rounds k s) st' ∧ ∃ v, v < N.n ∧ (N.rounds k s).node = (v : Int) ∧ st' v = r + k - 1)
  | 0, r, s, st, hr, hk, I => by omega
  | k + 1, r, s, st, hr, hk, I => by
    obtain ⟨st', I'⟩ := linv_passTo h hr I N.as.length (Nat.le_refl _)
    have I' : LInv N r N.as.length (N.pass s) st' := I'
    have e : N.rounds (k + 1) s = if (N.pass s).node < 0 then N.pass s else N.rounds k (N.pass s) := rfl
    rw [e]
    rcases I'.last with ⟨hl, hst⟩ | ⟨v, hv, hl, hst⟩
    · rw [if_pos (by omega)]
      refine .inl ⟨hl, fun e he => ?_⟩
      obtain ⟨j, hj, rfl⟩ := List.mem_iff_getElem.1 he
      have := (I'.rel j hj).1 hj
      rw [getD_lt _ _ hj] at this
      rcases this with h1 | h1
      · exact h1
      · have := hst (N.as[j]).f.toNat; omega
    · rw [if_neg (by omega)]
      by_cases hk0 : k = 0
      · subst hk0
        exact .inr ⟨st', I', v, hv, hl, hst⟩
      · have := lrounds_end h k (r + 1) (N.pass s) st' (by omega) (by omega) (linv_next hr I')
        have e2 : r + 1 + k - 1 = r + (k + 1) - 1 := by omega
        rw [e2] at this
        exact this
theorem lrun_end {N : Net} (h : N.OK) : (N.run.node = -1 ∧ N.Meets N.run.A) ∨ ∃ st, LInv N (N.n + 1) N.as.length N.run st ∧ ∃ v, v < N.n ∧ N.run.node = (v : Int) ∧ st v = N.n + 1 := by
  have := lrounds_end h (N.n + 1) 1 N.start (fun _ => 0) (by omega) (by omega) linv_start
  have e : 1 + (N.n + 1) - 1 = N.n + 1 := by omega
  rw [e] at this
  exact this

/-! The positions are below all that meet the arcs. -/
theorem lrelax_below {p : Nat → Int} {s : LP} {a : Arc} (ha : p a.f.toNat + a.by_ ≤ p a.t.toNat) (hs : ∀ v, v < s.at_.length → s.A v ≤ p v) (hf : a.f.toNat < s.at_.length) (ht : a.t.toNat < s.at_.length) : ∀ v, v < (lrelax s a).at_.length → (lrelax s a).A v ≤ p v := by
  unfold lrelax
  split
  · intro v hv
    simp only [List.length_set] at hv
    show (s.at_.set a.t.toNat (s.A a.f.toNat + a.by_)).getD v 0 ≤ p v
    rw [getD_set ht]
    split
    · rename_i e; subst e
      have := hs _ hf
      omega
    · exact hs v hv
  · exact hs
theorem lrelax_len (s : LP) (a : Arc) : (lrelax s a).at_.length = s.at_.length := by unfold lrelax; split <;> simp
theorem lpass_below {N : Net} (h : N.OK) {p : Nat → Int} (hp : N.Meets p) : ∀ (l : List Arc) (s : LP), (∀ a ∈ l, a ∈ N.as) → s.at_.length = N.n → (∀ v, v < N.n → s.A v ≤ p v) → (l.foldl lrelax s).at_.length = N.n ∧ ∀ v, v < N.n → (l.foldl lrelax s).A v ≤ p v
  | [], s, _, hn, hs => ⟨hn, hs⟩
  | a :: l, s, hl, hn, hs => by
    have ha := h.as a (hl a (by simp))
    have hb := lrelax_below (s := s) (hp a (hl a (by simp))) (by rw [hn]; exact hs) (by rw [hn]; omega) (by rw [hn]; omega)
    rw [lrelax_len, hn] at hb
    exact lpass_below h hp l (lrelax s a) (fun x hx => hl x (by simp [hx])) (by rw [lrelax_len]; exact hn) hb
theorem lrounds_below {N : Net} (h : N.OK) {p : Nat → Int} (hp : N.Meets p) : ∀ (k : Nat) (s : LP), s.at_.length = N.n → (∀ v, v < N.n → s.A v ≤ p v) → (N.rounds k s).at_.length = N.n ∧ ∀ v, v < N.n → (N.rounds k s).A v ≤ p v
  | 0, s, hn, hs => ⟨hn, hs⟩
  | k + 1, s, hn, hs => by
    have e : N.rounds (k + 1) s = if (N.pass s).node < 0 then N.pass s else N.rounds k (N.pass s) := rfl
    have hq : (N.pass s).at_.length = N.n ∧ ∀ v, v < N.n → (N.pass s).A v ≤ p v := by
      unfold Net.pass Net.passTo
      rw [List.take_length]
      exact lpass_below h hp N.as _ (fun a ha => ha) hn hs
    rw [e]
    split
    · exact hq
    · exact lrounds_below h hp k _ hq.1 hq.2
theorem lrun_below {N : Net} (h : N.OK) {p : Nat → Int} (hp : N.Meets p) (h0 : ∀ v, v < N.n → 0 ≤ p v) : N.run.at_.length = N.n ∧ ∀ v, v < N.n → N.run.A v ≤ p v :=
  lrounds_below h hp _ _ (by simp [Net.start]) fun v hv => by
    have : N.start.A v = 0 := by simp [Net.start, LP.A, List.getD_eq_getElem?_getD, List.getElem?_replicate]; split <;> rfl
    rw [this]; exact h0 v hv

/-! The way back. -/
def LP.pr (s : LP) (v : Nat) : Nat := (s.L v).f.toNat
def LP.back (s : LP) : Nat → Nat → Nat
  | 0, v => v
  | k + 1, v => s.pr (s.back k v)
theorem lback_add (s : LP) (a b v : Nat) : s.back (a + b) v = s.back b (s.back a v) := by
  induction b with
  | zero => rfl
  | succ b ih => show s.pr (s.back (a + b) v) = _; rw [ih]; rfl
structure LOn (N : Net) (s : LP) (v : Nat) : Prop where
  lt : v < N.n
  mem : s.L v ∈ N.as
  to_ : (s.L v).t.toNat = v
  le : s.A v ≤ s.A (s.L v).f.toNat + (s.L v).by_
theorem LOn.pr_lt {N : Net} (h : N.OK) {s : LP} {v : Nat} (o : LOn N s v) : s.pr v < N.n := by
  have := h.as _ o.mem
  unfold LP.pr
  omega
structure LCyc (N : Net) (s : LP) (x : Nat) : Prop where
  way : ∀ k, LOn N s (s.back k x)
  per : ∃ k, 0 < k ∧ k ≤ N.n ∧ s.back k x = x
  tau : ∃ τ : Nat → Nat, ∀ k, τ (s.back k x) ≤ τ (s.back (k + 1) x) → s.A (s.back k x) + 1 ≤ s.A (s.back (k + 1) x) + (s.L (s.back k x)).by_
theorem lcycle_of {N : Net} (h : N.OK) {s : LP} {st : Nat → Nat} {v : Nat} (I : LInv N (N.n + 1) N.as.length s st) (hv : v < N.n) (hst : st v = N.n + 1) :
    (∀ k, LOn N s (s.back k v)) ∧ LCyc N s (s.back N.n v) := by
  have hset : ∀ v, v < N.n → 0 < st v → LOn N s v ∧ st v ≤ st (s.pr v) + 1 := fun v h1 h2 => let ⟨a, b, c, d⟩ := I.set v h1 h2; ⟨⟨h1, a, b, c⟩, d⟩
  have hway : ∀ k, k ≤ N.n → s.back k v < N.n ∧ N.n + 1 ≤ st (s.back k v) + k := by
    intro k
    induction k with
    | zero => intro _; exact ⟨hv, by show _ ≤ st v + 0; omega⟩
    | succ k ih =>
      intro hk
      obtain ⟨h1, h2⟩ := ih (by omega)
      obtain ⟨o, h3⟩ := hset _ h1 (by omega)
      exact ⟨o.pr_lt h, by show _ ≤ st (s.pr (s.back k v)) + (k + 1); omega⟩
  have hon : ∀ k, k ≤ N.n → LOn N s (s.back k v) := fun k hk => (hset _ (hway k hk).1 (by have := (hway k hk).2; omega)).1
  obtain ⟨a, b, hab, hb, he⟩ := repeats (n := N.n) (x := fun k => s.back k v) (fun i hi => (hway i hi).1)
  have hper : ∀ k, a ≤ k → s.back (k + (b - a)) v = s.back k v := by
    intro k hk
    obtain ⟨c, rfl⟩ : ∃ c, k = a + c := ⟨k - a, by omega⟩
    have e : a + c + (b - a) = b + c := by omega
    rw [e, lback_add, lback_add, show s.back b v = s.back a v from he.symm]
  have hall : ∀ k, ∃ k', k' ≤ N.n ∧ s.back k v = s.back k' v := by
    intro k
    induction k using Nat.strongRecOn with
    | ind k ih =>
      by_cases hk : k ≤ N.n
      · exact ⟨k, hk, rfl⟩
      · obtain ⟨k', h1, h2⟩ := ih (k - (b - a)) (by omega)
        refine ⟨k', h1, ?_⟩
        rw [← h2]
        have := hper (k - (b - a)) (by omega)
        rw [← this]
        congr 1
        omega
  have hw : ∀ k, LOn N s (s.back k v) := fun k => by
    obtain ⟨k', h1, h2⟩ := hall k
    rw [h2]; exact hon k' h1
  have hst : ∀ k, 0 < st (s.back k v) := fun k => by
    obtain ⟨k', h1, h2⟩ := hall k
    rw [h2]
    have := (hway k' h1).2
    omega
  refine ⟨hw, fun k => by rw [← lback_add]; exact hw _, ⟨b - a, by omega, by omega, ?_⟩, ?_⟩
  · rw [← lback_add]
    exact hper _ (by omega)
  · obtain ⟨τ, c, _, h2⟩ := I.tau
    refine ⟨τ, fun k hk => ?_⟩
    rw [← lback_add] at hk ⊢
    rw [← lback_add] at hk ⊢
    exact h2 _ (hw _).lt (hst _) hk
def LP.per (s : LP) (n x : Nat) : Nat := (((List.range n).find? fun k => Nat.beq (s.back (k + 1) x) x).getD 0) + 1
theorem find_least {n : Nat} {q : Nat → Bool} (h : ∃ k, k < n ∧ q k = true) : ((List.range n).find? q).getD 0 < n ∧ q (((List.range n).find? q).getD 0) = true ∧ ∀ k, k < ((List.range n).find? q).getD 0 → q k = false := by
  obtain ⟨k0, hk0, hq0⟩ := h
  cases hf : (List.range n).find? q with
  | none =>
    rw [List.find?_eq_none] at hf
    exact absurd hq0 (hf k0 (by simpa using hk0))
  | some p =>
    have h1 := List.find?_some hf
    have h2 := List.mem_of_find?_eq_some hf
    refine ⟨by simpa using h2, h1, fun k hk => ?_⟩
    simp only [Option.getD_some] at hk
    rw [List.find?_range_eq_some] at hf
    have := hf.2.2 k hk
    simpa using this
theorem lper_spec {N : Net} {s : LP} {x : Nat} (c : LCyc N s x) : 0 < s.per N.n x ∧ s.per N.n x ≤ N.n ∧ s.back (s.per N.n x) x = x ∧ ∀ k, 0 < k → k < s.per N.n x → s.back k x ≠ x := by
  obtain ⟨p, hp0, hpn, hp⟩ := c.per
  obtain ⟨h1, h2, h3⟩ := find_least (n := N.n) (q := fun k => Nat.beq (s.back (k + 1) x) x) ⟨p - 1, by omega, by rw [show p - 1 + 1 = p by omega, hp]; simp⟩
  unfold LP.per
  refine ⟨by omega, by omega, Nat.eq_of_beq_eq_true h2, fun k hk0 hk he => ?_⟩
  have := h3 (k - 1) (by omega)
  rw [show k - 1 + 1 = k by omega, he] at this
  simp at this
/-- The arcs of the cycle, in the order in which they are gone back. -/
abbrev LP.gone (s : LP) (x k : Nat) : List Arc := (List.range k).map fun i => s.L (s.back i x)
def Net.knot (N : Net) : Nat := N.run.back N.n N.run.node.toNat
def Net.cyc (N : Net) : List Arc := N.run.gone N.knot (N.run.per N.n N.knot)

/-- Sums over the first numbers. -/
def sm : Nat → (Nat → Int) → Int
  | 0, _ => 0
  | k + 1, f => sm k f + f k
theorem sm_le {m : Nat} {f g : Nat → Int} (h : ∀ i, i < m → f i ≤ g i) : sm m f ≤ sm m g := by
  induction m with
  | zero => exact Int.le_refl _
  | succ m ih => have a := ih fun i hi => h i (by omega); have b := h m (by omega); show sm m f + f m ≤ sm m g + g m; omega
theorem sm_eq {m : Nat} {f g : Nat → Int} (h : ∀ i, i < m → f i = g i) : sm m f = sm m g := by
  induction m with
  | zero => rfl
  | succ m ih => have a := ih fun i hi => h i (by omega); have b := h m (by omega); show sm m f + f m = sm m g + g m; omega
theorem sm_add {m : Nat} (f g : Nat → Int) : sm m (fun i => f i + g i) = sm m f + sm m g := by
  induction m with
  | zero => rfl
  | succ m ih => show sm m (fun i => f i + g i) + (f m + g m) = (sm m f + f m) + (sm m g + g m); rw [ih]; omega
theorem sm_mul {m : Nat} (c : Int) (f : Nat → Int) : sm m (fun i => c * f i) = c * sm m f := by
  induction m with
  | zero => show 0 = c * 0; omega
  | succ m ih => show sm m _ + _ = c * (sm m f + f m); rw [ih, Int.mul_add]
theorem sm_const {m : Nat} (c : Int) : sm m (fun _ => c) = m * c := by
  induction m with
  | zero => show 0 = ((0 : Nat) : Int) * c; simp
  | succ m ih => show sm m _ + c = ((m + 1 : Nat) : Int) * c; rw [ih]; push_cast; rw [Int.add_mul]; omega
theorem sm_zero {m : Nat} : sm m (fun _ => 0) = 0 := by rw [sm_const]; simp
theorem sm_nonneg {m : Nat} {f : Nat → Int} (h : ∀ i, i < m → 0 ≤ f i) : 0 ≤ sm m f := by
  have := sm_le (m := m) (f := fun _ => 0) (g := f) h
  rwa [sm_zero] at this
theorem sm_tele {m : Nat} (f : Nat → Int) : sm m (fun i => f i - f (i + 1)) = f 0 - f m := by
  induction m with
  | zero => show 0 = _; omega
  | succ m ih => show sm m (fun i => f i - f (i + 1)) + (f m - f (m + 1)) = _; rw [ih]; omega
theorem sm_one {m : Nat} {f : Nat → Int} (h : ∀ i, i < m → 0 ≤ f i) {j : Nat} (hj : j < m) : f j ≤ sm m f := by
  induction m with
  | zero => omega
  | succ m ih =>
    show f j ≤ sm m f + f m
    have h0 := sm_nonneg (m := m) (f := f) fun i hi => h i (by omega)
    by_cases e : j = m
    · subst e; omega
    · have a := ih (fun i hi => h i (by omega)) (by omega)
      have b := h m (by omega)
      omega
theorem sm_one_neg {m : Nat} {f : Nat → Int} (h : ∀ i, i < m → 0 ≤ f i) (h0 : sm m f ≤ 0) {j : Nat} (hj : j < m) : f j = 0 := by
  have := sm_one h hj
  have := h j hj
  omega

/-- Along the cycle the positions grow. -/
theorem lcyc_sum {N : Net} {s : LP} {x : Nat} (c : LCyc N s x) : 0 < sm (s.per N.n x) (fun i => (s.L (s.back i x)).by_) := by
  obtain ⟨hp0, hpn, hpx, _⟩ := lper_spec c
  obtain ⟨τ, hτ⟩ := c.tau
  obtain ⟨p, hp⟩ : ∃ p, s.per N.n x = p := ⟨_, rfl⟩
  rw [hp] at hp0 hpx ⊢
  have hle : ∀ i, s.A (s.back i x) - s.A (s.back (i + 1) x) ≤ (s.L (s.back i x)).by_ := fun i => by
    have := (c.way i).le
    show s.A (s.back i x) - s.A (s.pr (s.back i x)) ≤ _
    unfold LP.pr
    omega
  have htel := sm_tele (m := p) fun i => s.A (s.back i x)
  have h0 : s.A (s.back 0 x) - s.A (s.back p x) = 0 := by rw [hpx]; show s.A x - s.A x = 0; omega
  rw [h0] at htel
  obtain ⟨i, hi, hst⟩ : ∃ i, i < p ∧ τ (s.back i x) ≤ τ (s.back (i + 1) x) := by
    refine Classical.byContradiction fun hno => ?_
    have hdec : ∀ i, i ≤ p → τ (s.back i x) + i ≤ τ x := by
      intro i
      induction i with
      | zero => intro _; exact Nat.le_refl _
      | succ i ih =>
        intro hi
        have a := ih (by omega)
        have b : ¬ τ (s.back i x) ≤ τ (s.back (i + 1) x) := fun h => hno ⟨i, by omega, h⟩
        omega
    have := hdec p (Nat.le_refl _)
    rw [hpx] at this
    omega
  have hs := hτ i hst
  have := sm_one (m := p) (f := fun i => (s.L (s.back i x)).by_ - (s.A (s.back i x) - s.A (s.back (i + 1) x))) (fun i _ => by have := hle i; omega) hi
  have e : sm p (fun i => (s.L (s.back i x)).by_) = sm p (fun i => (s.L (s.back i x)).by_ - (s.A (s.back i x) - s.A (s.back (i + 1) x))) + sm p (fun i => s.A (s.back i x) - s.A (s.back (i + 1) x)) := by
    rw [← sm_add]
    exact sm_eq fun i _ => by omega
  rw [htel] at e
  have hs' : 1 ≤ (s.L (s.back i x)).by_ - (s.A (s.back i x) - s.A (s.back (i + 1) x)) := by omega
  omega

/-! The rounds, one after the other. -/
def Net.stt (N : Net) : Nat → LP
  | 0 => N.start
  | k + 1 => N.pass (N.stt k)
def Net.loud (N : Net) (k : Nat) : Prop := ∀ j, 0 < j → j ≤ k → 0 ≤ (N.stt j).node
theorem lrun_stt {N : Net} : ∀ (k : Nat), k ≤ N.n + 1 → N.loud k → N.run = N.rounds (N.n + 1 - k) (N.stt k)
  | 0, _, _ => rfl
  | k + 1, hk, hl => by
    rw [lrun_stt k (by omega) fun j h1 h2 => hl j h1 (by omega)]
    obtain ⟨d, hd⟩ : ∃ d, N.n + 1 - k = d + 1 := ⟨N.n - k, by omega⟩
    rw [hd, show N.n + 1 - (k + 1) = d by omega]
    show (if (N.pass (N.stt k)).node < 0 then N.pass (N.stt k) else N.rounds d (N.pass (N.stt k))) = _
    have := hl (k + 1) (by omega) (Nat.le_refl _)
    have e : N.stt (k + 1) = N.pass (N.stt k) := rfl
    rw [e] at this ⊢
    rw [if_neg (by omega)]
theorem lrun_full {N : Net} (hl : N.loud (N.n + 1)) : N.run = N.stt (N.n + 1) := by
  rw [lrun_stt _ (Nat.le_refl _) hl]
  simp [Net.rounds]
theorem lrun_quiet {N : Net} {k : Nat} (hk : k ≤ N.n) (hl : N.loud k) (hq : (N.stt (k + 1)).node < 0) : N.run = N.stt (k + 1) := by
  rw [lrun_stt k (by omega) hl]
  obtain ⟨d, hd⟩ : ∃ d, N.n + 1 - k = d + 1 := ⟨N.n - k, by omega⟩
  rw [hd]
  show (if (N.pass (N.stt k)).node < 0 then N.pass (N.stt k) else N.rounds d (N.pass (N.stt k))) = _
  exact if_pos hq
theorem linv_stt {N : Net} (h : N.OK) : ∀ k, ∃ st, LInv N (k + 1) 0 { N.stt k with node := -1 } st
  | 0 => ⟨_, linv_start⟩
  | k + 1 => by
    obtain ⟨st, I⟩ := linv_stt h k
    obtain ⟨st', I'⟩ := linv_passTo h (by omega) I N.as.length (Nat.le_refl _)
    exact ⟨st', linv_next (by omega) I'⟩
structure LGood (N : Net) (s : LP) : Prop where
  la : s.at_.length = N.n
  ll : s.lst.length = N.n
  bd : ∀ v, 0 ≤ s.at_.getD v 0 ∧ s.at_.getD v 0 ≤ 1152921504606846976
  nd : -1 ≤ s.node ∧ s.node < N.n
  ks : ∀ v, v < N.n → s.lst.getD v default ∈ N.as ∨ s.lst.getD v default = default
theorem lpassTo_good {N : Net} (h : N.OK) (hT : (((N.n + 1) * N.as.length : Nat) : Int) * N.B ≤ 1152921504606846976) (hB : 0 ≤ N.B) {k i : Nat} (hk : k ≤ N.n) (hi : i ≤ N.as.length) : LGood N (N.passTo (N.stt k) i) := by
  obtain ⟨st, I⟩ := linv_stt h k
  obtain ⟨st', I'⟩ := linv_passTo h (by omega) I i hi
  refine ⟨I'.lenf, I'.lenb, fun v => ⟨I'.low v, ?_⟩, ?_, I'.kind⟩
  · have h1 := I'.top v
    have h2 : (k + 1 - 1) * N.as.length + i ≤ (N.n + 1) * N.as.length := by
      have a : (k + 1 - 1) * N.as.length ≤ N.n * N.as.length := Nat.mul_le_mul_right _ (by omega)
      rw [Nat.add_mul]; omega
    have h4 : (((k + 1 - 1) * N.as.length + i : Nat) : Int) * N.B ≤ (((N.n + 1) * N.as.length : Nat) : Int) * N.B := Int.mul_le_mul_of_nonneg_right (by exact_mod_cast h2) hB
    have h3 : LP.A (N.passTo (N.stt k) i) v = (N.passTo (N.stt k) i).at_.getD v 0 := rfl
    omega
  · rcases I'.last with ⟨h1, _⟩ | ⟨v, _, h1, _⟩ <;> omega
theorem lstt_good {N : Net} (h : N.OK) (hT : (((N.n + 1) * N.as.length : Nat) : Int) * N.B ≤ 1152921504606846976) (hB : 0 ≤ N.B) {k : Nat} (hk : k ≤ N.n + 1) : LGood N (N.stt k) := by
  cases k with
  | zero =>
    have hF : ∀ v, N.start.at_.getD v 0 = 0 := fun v => by simp [Net.start, List.getD_eq_getElem?_getD, List.getElem?_replicate]; split <;> rfl
    have hL : ∀ v, N.start.lst.getD v default = default := fun v => by simp [Net.start, List.getD_eq_getElem?_getD, List.getElem?_replicate]; split <;> rfl
    exact ⟨by simp [Net.stt, Net.start], by simp [Net.stt, Net.start], fun v => by show _ ∧ N.start.at_.getD v 0 ≤ _; rw [show (N.stt 0).at_.getD v 0 = 0 from hF v, hF]; omega, by show -1 ≤ (-1 : Int) ∧ (-1 : Int) < _; omega, fun v _ => .inr (hL v)⟩
  | succ k => exact lpassTo_good h hT hB (by omega) (Nat.le_refl _)

/-- All of it: positions that meet the arcs and are the least; or a cycle. -/
theorem lrun_cases {N : Net} (h : N.OK) : (N.run.node = -1 ∧ N.Meets N.run.A) ∨ (∃ v : Nat, v < N.n ∧ N.run.node = (v : Int)) ∧ (∀ k, LOn N N.run (N.run.back k N.run.node.toNat)) ∧ LCyc N N.run N.knot := by
  rcases lrun_end h with h1 | ⟨st, I, v, hv, hn, hst⟩
  · exact .inl h1
  · obtain ⟨a, b⟩ := lcycle_of h I hv hst
    refine .inr ⟨⟨v, hv, hn⟩, ?_, ?_⟩
    · rw [hn]; exact a
    · unfold Net.knot; rw [hn]; exact b

/-! A cycle of a net. -/
structure NCyc (N : Net) (c : List Arc) : Prop where
  len : 0 < c.length ∧ c.length ≤ N.n
  mem : ∀ i, i < c.length → c.getD i default ∈ N.as
  dist : ∀ i j, i < j → j < c.length → (c.getD i default).t ≠ (c.getD j default).t
  tele : ∀ p : Nat → Int, sm c.length (fun i => p (c.getD i default).t.toNat - p (c.getD i default).f.toNat) = 0
  grow : 0 < sm c.length fun i => (c.getD i default).by_
theorem back_dist {s : LP} {x p : Nat} (hpx : s.back p x = x) (hmin : ∀ k, 0 < k → k < p → s.back k x ≠ x) {i j : Nat} (hij : i < j) (hj : j < p) : s.back i x ≠ s.back j x := fun e => by
  have h1 : s.back (p - j) (s.back i x) = s.back (p - j) (s.back j x) := by rw [e]
  rw [← lback_add, ← lback_add, show j + (p - j) = p by omega, hpx] at h1
  exact hmin (i + (p - j)) (by omega) (by omega) h1
theorem ncyc_gone {N : Net} {s : LP} {x : Nat} (c : LCyc N s x) : NCyc N (s.gone x (s.per N.n x)) := by
  obtain ⟨hp0, hpn, hpx, hmin⟩ := lper_spec c
  have hg := lcyc_sum c
  obtain ⟨p, hp⟩ : ∃ p, s.per N.n x = p := ⟨_, rfl⟩
  rw [hp] at hg hmin hpx hp0 hpn ⊢
  have hl : (s.gone x p).length = p := by simp
  have hat : ∀ i, i < p → (s.gone x p).getD i default = s.L (s.back i x) := fun i hi => by
    rw [getD_lt _ _ (by rw [hl]; exact hi)]; simp
  have hto : ∀ i, (s.L (s.back i x)).t.toNat = s.back i x := fun i => (c.way i).to_
  refine ⟨by rw [hl]; exact ⟨hp0, hpn⟩, fun i hi => ?_, fun i j hij hj => ?_, fun q => ?_, ?_⟩
  · rw [hl] at hi; rw [hat i hi]; exact (c.way i).mem
  · rw [hl] at hj
    rw [hat i (by omega), hat j hj]
    intro e
    have e2 := congrArg Int.toNat e
    rw [hto, hto] at e2
    exact back_dist hpx hmin hij hj e2
  · rw [hl]
    have e : sm p (fun i => q ((s.gone x p).getD i default).t.toNat - q ((s.gone x p).getD i default).f.toNat) = sm p (fun i => q (s.back i x) - q (s.back (i + 1) x)) := sm_eq fun i hi => by
      rw [hat i hi, hto]; rfl
    rw [e, sm_tele (m := p) fun i => q (s.back i x), hpx]
    show q x - q x = 0
    omega
  · rw [hl]
    have e : sm p (fun i => ((s.gone x p).getD i default).by_) = sm p (fun i => (s.L (s.back i x)).by_) := sm_eq fun i hi => by rw [hat i hi]
    rw [e]; exact hg
theorem ncyc_run {N : Net} (h : N.OK) (hq : ¬ N.run.node < 0) : NCyc N N.cyc := by
  rcases lrun_cases h with ⟨h1, _⟩ | ⟨_, _, c⟩
  · omega
  · exact ncyc_gone c

end Go.Proofs.Ytcidkahhfdcddaa

/- Flows on graphs, in plain Lean: the least positions; the plan of least memory, by changing a flow along cycles. No program in sight. -/
namespace Go.Proofs.Ytcidkahhfdcddaa
set_option linter.unusedVariables false
set_option linter.unusedSimpArgs false

abbrev Gr.ed (g : Gr) (i : Nat) : Edg := g.es.getD i default
def Gr.byE (g : Gr) (i : Nat) : Int := g.lat.getD (g.ed i).f.toNat 0 - (g.ed i).d
def Gr.fwdC (g : Gr) (c : Nat → Int) (i : Nat) : Arc := ⟨(g.ed i).f, (g.ed i).t, c i, i, false, 1⟩
def Gr.bwdC (g : Gr) (c : Nat → Int) (i : Nat) : Arc := ⟨(g.ed i).t, (g.ed i).f, -c i, i, true, -1⟩
abbrev Gr.fwd (g : Gr) (i : Nat) : Arc := g.fwdC g.byE i
abbrev Gr.bwd (g : Gr) (i : Nat) : Arc := g.bwdC g.byE i
def Gr.arcsAtC (g : Gr) (c : Nat → Int) (fl : List Int) (i : Nat) : List Arc := if 0 < fl.getD i 0 then [g.fwdC c i, g.bwdC c i] else [g.fwdC c i]
def Gr.arcsToC (g : Gr) (c : Nat → Int) (fl : List Int) : Nat → List Arc
  | 0 => []
  | i + 1 => g.arcsToC c fl i ++ g.arcsAtC c fl i
/-- The arcs of a flow, an edge of length c i each. -/
def Gr.netC (g : Gr) (c : Nat → Int) (B : Int) (fl : List Int) : Net := ⟨g.lat.length, g.arcsToC c fl g.es.length, B⟩
abbrev Gr.net (g : Gr) (fl : List Int) : Net := g.netC g.byE 1052672 fl
def Gr.posC (g : Gr) (c : Nat → Int) (fl : List Int) (i : Nat) : Nat := (g.arcsToC c fl i).length
theorem pos_le (g : Gr) (c : Nat → Int) (fl : List Int) (i : Nat) : g.posC c fl i ≤ 2 * i := by
  induction i with
  | zero => exact Nat.le_refl _
  | succ i ih =>
    unfold Gr.posC at *
    show (g.arcsToC c fl i ++ g.arcsAtC c fl i).length ≤ _
    have : (g.arcsAtC c fl i).length ≤ 2 := by unfold Gr.arcsAtC; split <;> simp
    rw [List.length_append]; omega
theorem arcsTo_app (g : Gr) (c : Nat → Int) (fl : List Int) (i d : Nat) : ∃ r, g.arcsToC c fl (i + d) = g.arcsToC c fl i ++ r := by
  induction d with
  | zero => exact ⟨[], by simp⟩
  | succ d ih =>
    obtain ⟨r, hr⟩ := ih
    exact ⟨r ++ g.arcsAtC c fl (i + d), by show g.arcsToC c fl (i + d) ++ g.arcsAtC c fl (i + d) = _; rw [hr, List.append_assoc]⟩
theorem arcs_split {g : Gr} {c : Nat → Int} {B : Int} {fl : List Int} {i : Nat} (hi : i < g.es.length) : ∃ r, (g.netC c B fl).as = g.arcsToC c fl i ++ (g.arcsAtC c fl i ++ r) := by
  obtain ⟨r, hr⟩ := arcsTo_app g c fl (i + 1) (g.es.length - (i + 1))
  rw [show i + 1 + (g.es.length - (i + 1)) = g.es.length by omega] at hr
  exact ⟨r, by show g.arcsToC c fl g.es.length = _; rw [hr]; show (g.arcsToC c fl i ++ _) ++ _ = _; rw [List.append_assoc]⟩
/-- Where the arcs of an edge stand. -/
theorem arcs_at {g : Gr} {c : Nat → Int} {B : Int} {fl : List Int} {i : Nat} (hi : i < g.es.length) : g.posC c fl i < (g.netC c B fl).as.length ∧ (g.netC c B fl).as.getD (g.posC c fl i) default = g.fwdC c i ∧
    (0 < fl.getD i 0 → g.posC c fl i + 1 < (g.netC c B fl).as.length ∧ (g.netC c B fl).as.getD (g.posC c fl i + 1) default = g.bwdC c i ∧ g.posC c fl (i + 1) = g.posC c fl i + 2) ∧ (¬ 0 < fl.getD i 0 → g.posC c fl (i + 1) = g.posC c fl i + 1) := by
  obtain ⟨r, hr⟩ := arcs_split (c := c) (B := B) (fl := fl) hi
  have hs : g.posC c fl (i + 1) = g.posC c fl i + (g.arcsAtC c fl i).length := by unfold Gr.posC; show (g.arcsToC c fl i ++ g.arcsAtC c fl i).length = _; simp
  have hl : (g.netC c B fl).as.length = g.posC c fl i + ((g.arcsAtC c fl i).length + r.length) := by rw [hr]; simp [Gr.posC]
  have hg : ∀ k, (g.netC c B fl).as.getD (g.posC c fl i + k) default = (g.arcsAtC c fl i ++ r).getD k default := fun k => by
    rw [hr, List.getD_eq_getElem?_getD, List.getD_eq_getElem?_getD, List.getElem?_append_right (by unfold Gr.posC; omega)]
    congr 2; unfold Gr.posC; omega
  have h0 := hg 0
  have h1 := hg 1
  rw [Nat.add_zero] at h0
  rw [h0, h1, hs, hl]
  unfold Gr.arcsAtC
  by_cases hf : 0 < fl.getD i 0
  · rw [if_pos hf]
    refine ⟨by simp; omega, by simp, fun _ => ⟨by simp; omega, by simp, by simp⟩, fun h => absurd hf h⟩
  · rw [if_neg hf]
    refine ⟨by simp; omega, by simp, fun h => absurd h hf, fun _ => by simp⟩
theorem mem_arcsTo {g : Gr} {c : Nat → Int} {fl : List Int} {a : Arc} : ∀ k, a ∈ g.arcsToC c fl k ↔ ∃ i, i < k ∧ (a = g.fwdC c i ∨ (0 < fl.getD i 0 ∧ a = g.bwdC c i))
  | 0 => by simp [Gr.arcsToC]
  | k + 1 => by
    show a ∈ g.arcsToC c fl k ++ g.arcsAtC c fl k ↔ _
    rw [List.mem_append, mem_arcsTo k]
    have hat : a ∈ g.arcsAtC c fl k ↔ (a = g.fwdC c k ∨ (0 < fl.getD k 0 ∧ a = g.bwdC c k)) := by
      unfold Gr.arcsAtC
      split
      · rename_i h; simp only [List.mem_cons, List.not_mem_nil, or_false]; constructor
        · rintro (h1 | h1); exact .inl h1; exact .inr ⟨h, h1⟩
        · rintro (h1 | h1); exact .inl h1; exact .inr h1.2
      · rename_i h; simp only [List.mem_cons, List.not_mem_nil, or_false]; constructor
        · exact .inl
        · rintro (h1 | h1); exact h1; exact absurd h1.1 h
    rw [hat]
    constructor
    · rintro (⟨i, hi, h⟩ | h)
      · exact ⟨i, by omega, h⟩
      · exact ⟨k, by omega, h⟩
    · rintro ⟨i, hi, h⟩
      by_cases e : i = k
      · subst e; exact .inr h
      · exact .inl ⟨i, by omega, h⟩
theorem mem_net {g : Gr} {c : Nat → Int} {B : Int} {fl : List Int} {a : Arc} : a ∈ (g.netC c B fl).as ↔ ∃ i, i < g.es.length ∧ (a = g.fwdC c i ∨ (0 < fl.getD i 0 ∧ a = g.bwdC c i)) := mem_arcsTo _
theorem byE_bd {g : Gr} (h : g.OK) (i : Nat) (hi : i < g.es.length) : -1048576 ≤ g.byE i ∧ g.byE i ≤ 4096 := by
  have h1 := h.es (g.ed i) (Gr.edge h hi).1
  have h2 := g.lat_at h (g.ed i).f.toNat
  unfold Gr.byE
  omega
theorem netC_ok {g : Gr} (h : g.OK) {c : Nat → Int} {B : Int} (hc : ∀ i, i < g.es.length → -B ≤ c i ∧ c i ≤ B) (fl : List Int) : (g.netC c B fl).OK := ⟨fun a ha => by
  obtain ⟨i, hi, ha⟩ := mem_net.1 ha
  have h1 := h.es _ (Gr.edge h hi).1
  have h2 := hc i hi
  rcases ha with rfl | ⟨_, rfl⟩
  · exact ⟨h1.1, h1.2.1, by show -B ≤ c i; omega, by show c i ≤ B; omega⟩
  · exact ⟨h1.2.1, h1.1, by show -B ≤ -c i; omega, by show -c i ≤ B; omega⟩⟩
theorem net_ok {g : Gr} (h : g.OK) (fl : List Int) : (g.net fl).OK := netC_ok h (fun i hi => by have := byE_bd h i hi; omega) fl
theorem netC_len (g : Gr) (c : Nat → Int) (B : Int) (fl : List Int) : (g.netC c B fl).as.length ≤ 2 * g.es.length := pos_le g c fl _
theorem net_len (g : Gr) (fl : List Int) : (g.net fl).as.length ≤ 2 * g.es.length := pos_le g _ fl _

/-! Positions. -/
def Gr.sl (g : Gr) (p : Nat → Int) (i : Nat) : Int := p (g.ed i).t.toNat + (g.ed i).d - p (g.ed i).f.toNat - g.lat.getD (g.ed i).f.toNat 0
def Gr.df (g : Gr) (p : Nat → Int) (i : Nat) : Int := p (g.ed i).t.toNat - p (g.ed i).f.toNat
theorem sl_df (g : Gr) (p : Nat → Int) (i : Nat) : g.sl p i = g.df p i - g.byE i := by unfold Gr.sl Gr.df Gr.byE; omega
abbrev fn (l : List Int) (v : Nat) : Int := l.getD v 0
def Gr.mem (g : Gr) (p : Nat → Int) : Int := sm g.es.length fun i => g.sl p i * (g.ed i).w
def Gr.delays (g : Gr) (p : Nat → Int) : List Int := (List.range g.es.length).map (g.sl p)
structure Feas (g : Gr) (p : Nat → Int) : Prop where
  pos : ∀ v, v < g.lat.length → 0 ≤ p v
  sl : ∀ i, i < g.es.length → 0 ≤ g.sl p i
theorem meets_iff {g : Gr} {fl : List Int} {p : Nat → Int} : (g.net fl).Meets p ↔ ∀ i, i < g.es.length → 0 ≤ g.sl p i ∧ (0 < fl.getD i 0 → g.sl p i ≤ 0) := by
  constructor
  · intro h i hi
    have h1 : p (g.ed i).f.toNat + g.byE i ≤ p (g.ed i).t.toNat := h (g.fwd i) (mem_net.2 ⟨i, hi, .inl rfl⟩)
    refine ⟨by rw [sl_df]; unfold Gr.df; omega, fun hf => ?_⟩
    have h2 : p (g.ed i).t.toNat + -g.byE i ≤ p (g.ed i).f.toNat := h (g.bwd i) (mem_net.2 ⟨i, hi, .inr ⟨hf, rfl⟩⟩)
    rw [sl_df]; unfold Gr.df; omega
  · intro h a ha
    obtain ⟨i, hi, ha⟩ := mem_net.1 ha
    have h1 := h i hi
    rw [sl_df] at h1
    unfold Gr.df at h1
    rcases ha with rfl | ⟨hf, rfl⟩
    · show p (g.ed i).f.toNat + g.byE i ≤ p (g.ed i).t.toNat
      omega
    · show p (g.ed i).t.toNat + -g.byE i ≤ p (g.ed i).f.toNat
      have := h1.2 hf
      omega
theorem lrun_stt' (N : Net) : ∀ k j, ∃ i, i ≤ k ∧ N.rounds k (N.stt j) = N.stt (j + i)
  | 0, j => ⟨0, Nat.le_refl _, rfl⟩
  | k + 1, j => by
    have e : N.rounds (k + 1) (N.stt j) = if (N.pass (N.stt j)).node < 0 then N.pass (N.stt j) else N.rounds k (N.pass (N.stt j)) := rfl
    rw [e]
    split
    · exact ⟨1, by omega, rfl⟩
    · obtain ⟨i, hi, h⟩ := lrun_stt' N k (j + 1)
      exact ⟨i + 1, by omega, by rw [show j + (i + 1) = j + 1 + i by omega, ← h]; rfl⟩
theorem lrun_topB {N : Net} (h : N.OK) (hB : 0 ≤ N.B) (v : Nat) : 0 ≤ N.run.A v ∧ N.run.A v ≤ (((N.n + 1) * N.as.length : Nat) : Int) * N.B := by
  obtain ⟨i, hi, hr⟩ := lrun_stt' N (N.n + 1) 0
  have hr : N.run = N.stt (0 + i) := hr
  obtain ⟨st, I⟩ := linv_stt h (0 + i)
  rw [hr]
  have h1 := I.low v
  have h2 := I.top v
  have h3 : ((0 + i + 1 - 1) * N.as.length + 0) ≤ (N.n + 1) * N.as.length := by
    rw [Nat.add_zero]; exact Nat.mul_le_mul_right _ (by omega)
  have h4 : (((0 + i + 1 - 1) * N.as.length + 0 : Nat) : Int) * N.B ≤ (((N.n + 1) * N.as.length : Nat) : Int) * N.B := Int.mul_le_mul_of_nonneg_right (by exact_mod_cast h3) hB
  refine ⟨h1, ?_⟩
  have h2 : (N.stt (0 + i)).A v ≤ (((0 + i + 1 - 1) * N.as.length + 0 : Nat) : Int) * N.B := h2
  omega
theorem net_top {g : Gr} (h : g.OK) (fl : List Int) (v : Nat) : 0 ≤ (g.net fl).run.A v ∧ (g.net fl).run.A v ≤ ((((g.net fl).n + 1) * (g.net fl).as.length : Nat) : Int) * 1052672 := lrun_topB (net_ok h fl) (by show (0 : Int) ≤ 1052672; decide) v
theorem net_T {g : Gr} (h : g.OK) (fl : List Int) : ((((g.net fl).n + 1) * (g.net fl).as.length : Nat) : Int) * (g.net fl).B ≤ 1152921504606846976 := by
  have h2 := net_len g fl
  have h3 : (((g.net fl).n + 1) * (g.net fl).as.length : Nat) ≤ 4097 * 32768 := Nat.mul_le_mul (by have := h.n; show g.lat.length + 1 ≤ _; omega) (by have := h.m; omega)
  show _ * (1052672 : Int) ≤ _
  omega
theorem net_B (g : Gr) (fl : List Int) : 0 ≤ (g.net fl).B := by show (0 : Int) ≤ 1052672; decide
theorem run_stt' (g : Gr) : ∀ k j, ∃ i, i ≤ k ∧ rounds g k (g.stt j) = g.stt (j + i)
  | 0, j => ⟨0, Nat.le_refl _, rfl⟩
  | k + 1, j => by
    have e : rounds g (k + 1) (g.stt j) = if (pass g (g.stt j)).last < 0 then pass g (g.stt j) else rounds g k (pass g (g.stt j)) := rfl
    rw [e]
    split
    · exact ⟨1, by omega, rfl⟩
    · obtain ⟨i, hi, h⟩ := run_stt' g k (j + 1)
      exact ⟨i + 1, by omega, by rw [show j + (i + 1) = j + 1 + i by omega, ← h]; rfl⟩
/-- Positions in which each edge has something to spare. -/
theorem pot_of {g : Gr} (h : g.OK) (hs : g.short = false) : ∃ π : Nat → Int, (∀ i, i < g.es.length → (g.nn + 1) * g.byE i + 1 ≤ g.df π i) ∧ ∀ v, 0 ≤ π v ∧ π v ≤ (((g.lat.length + 1) * g.es.length : Nat) : Int) * 16785408 := by
  rcases run_short h with ⟨_, _, hq⟩ | ⟨v, _, _, hs', _⟩
  · refine ⟨fun v => -(g.run.F v), fun i hi => ?_, fun v => ?_⟩
    · have h1 := hq _ (Gr.edge h hi).1
      unfold Gr.W at h1
      have e : g.wt (g.ed i) = -g.byE i := by unfold Gr.wt Gr.byE; omega
      have h1 : g.run.F (g.ed i).t.toNat ≤ g.run.F (g.ed i).f.toNat + ((g.nn + 1) * g.wt (g.ed i) - 1) := h1
      rw [e, Int.mul_neg] at h1
      unfold Gr.df
      dsimp only
      omega
    · obtain ⟨i, hi, hr⟩ := run_stt' g (g.lat.length + 1) 0
      have hr : g.run = g.stt (0 + i) := hr
      obtain ⟨st, I⟩ := inv_stt h (0 + i)
      have h1 := I.top v
      have h2 := I.low v
      have h3 : ((0 + i + 1 - 1) * g.es.length + 0) ≤ (g.lat.length + 1) * g.es.length := by
        rw [Nat.add_zero]; exact Nat.mul_le_mul_right _ (by omega)
      have e1 : BF.F { g.stt (0 + i) with last := -1 } v = g.run.F v := by rw [hr]
      rw [e1] at h1 h2
      have h4 : ((((0 + i + 1 - 1) * g.es.length + 0 : Nat) : Int)) ≤ (((g.lat.length + 1) * g.es.length : Nat) : Int) := by exact_mod_cast h3
      dsimp only
      omega
  · rw [hs] at hs'; cases hs'

theorem ncyc_of {g : Gr} (h : g.OK) {fl : List Int} (hq : ¬ (g.net fl).run.node < 0) : NCyc (g.net fl) (g.net fl).cyc := ncyc_run (net_ok h fl) hq
/-- Where no cycle of edges is too short, it goes an edge back. -/
theorem ncyc_back {g : Gr} (h : g.OK) (hs : g.short = false) {fl : List Int} {c : List Arc} (hc : NCyc (g.net fl) c) : ∃ i, i < c.length ∧ (c.getD i default).b = true := by
  refine Classical.byContradiction fun hno => ?_
  obtain ⟨π, hπ, _⟩ := pot_of h hs
  have h1 : ∀ i, i < c.length → (g.nn + 1) * (c.getD i default).by_ + 1 ≤ π (c.getD i default).t.toNat - π (c.getD i default).f.toNat := fun i hi => by
    obtain ⟨j, hj, ha⟩ := mem_net.1 (hc.mem i hi)
    rcases ha with ha | ⟨_, ha⟩
    · rw [ha]; exact hπ j hj
    · exact absurd ⟨i, hi, by rw [ha]; rfl⟩ hno
  have h2 := sm_le h1
  rw [hc.tele π, sm_add, sm_mul, sm_const] at h2
  have h3 := hc.grow
  have h4 := hc.len.1
  have h5 : (g.nn + 1) * 1 ≤ (g.nn + 1) * sm c.length (fun i => (c.getD i default).by_) := Int.mul_le_mul_of_nonneg_left h3 (by unfold Gr.nn; omega)
  unfold Gr.nn at h5 h2
  omega
/-- The least positions: where no edge has a flow. -/
def Gr.zeros (g : Gr) : List Int := List.replicate g.es.length 0
theorem zeros_at (g : Gr) (i : Nat) : g.zeros.getD i 0 = 0 := by
  simp only [Gr.zeros, List.getD_eq_getElem?_getD, List.getElem?_replicate]; split <;> rfl
theorem zeros_quiet {g : Gr} (h : g.OK) (hs : g.short = false) : (g.net g.zeros).run.node < 0 := by
  refine Classical.byContradiction fun hq => ?_
  have c := ncyc_of h hq
  obtain ⟨i, hi, hb⟩ := ncyc_back h hs c
  obtain ⟨j, hj, ha⟩ := mem_net.1 (c.mem i hi)
  rcases ha with ha | ⟨hf, ha⟩
  · rw [ha] at hb; cases hb
  · rw [zeros_at] at hf; omega
def Gr.low (g : Gr) : List Int := (g.net g.zeros).run.at_
theorem quiet_pos {g : Gr} (h : g.OK) {fl : List Int} (hq : (g.net fl).run.node < 0) : (g.net fl).run.at_.length = g.lat.length ∧ Feas g (g.net fl).run.A ∧ (g.net fl).Meets (g.net fl).run.A ∧ ∀ p, (∀ v, v < g.lat.length → 0 ≤ p v) → (g.net fl).Meets p → ∀ v, v < g.lat.length → (g.net fl).run.A v ≤ p v := by
  rcases lrun_cases (net_ok h fl) with ⟨_, hm⟩ | ⟨⟨v, _, hv⟩, _⟩
  · refine ⟨(lrun_below (net_ok h fl) hm fun v _ => (net_top h fl v).1).1, ⟨fun v _ => (net_top h fl v).1, fun i hi => (meets_iff.1 hm i hi).1⟩, hm, fun p h0 hp => (lrun_below (net_ok h fl) hp h0).2⟩
  · omega
structure Low (g : Gr) (l : List Int) : Prop where
  len : l.length = g.lat.length
  feas : Feas g (fn l)
  least : ∀ p, Feas g p → ∀ v, v < g.lat.length → fn l v ≤ p v
theorem low_spec {g : Gr} (h : g.OK) (hs : g.short = false) : Low g g.low := by
  obtain ⟨h1, h2, _, h3⟩ := quiet_pos h (zeros_quiet h hs)
  exact ⟨h1, h2, fun p hp => h3 p hp.pos (meets_iff.2 fun i hi => ⟨hp.sl i hi, fun hf => by rw [zeros_at] at hf; omega⟩)⟩
theorem ext_fn {l m : List Int} (hl : l.length = m.length) (h : ∀ k, k < l.length → fn l k = fn m k) : l = m := by
  refine List.ext_getElem hl fun k h1 h2 => ?_
  have := h k h1
  unfold fn at this
  rwa [getD_lt _ _ h1, getD_lt _ _ h2] at this
theorem low_unique {g : Gr} {a b : List Int} (ha : Low g a) (hb : Low g b) : a = b := ext_fn (ha.len.trans hb.len.symm) fun k hk => by
  have h1 := ha.least _ hb.feas k (by rw [← ha.len]; exact hk)
  have h2 := hb.least _ ha.feas k (by rw [← ha.len]; exact hk)
  omega

/-! Flows. -/
structure Flow (g : Gr) (fl : List Int) : Prop where
  len : fl.length = g.es.length
  pos : ∀ i, i < g.es.length → 0 ≤ fn fl i
  same : ∀ p : Nat → Int, sm g.es.length (fun i => fn fl i * g.df p i) = sm g.es.length (fun i => (g.ed i).w * g.df p i)
  up : sm g.es.length (fun i => (g.ed i).w * g.byE i) ≤ sm g.es.length (fun i => fn fl i * g.byE i)
def Gr.ws (g : Gr) : List Int := g.es.map (·.w)
theorem ws_at {g : Gr} {i : Nat} (hi : i < g.es.length) : g.ws.getD i 0 = (g.ed i).w := by
  unfold Gr.ws Gr.ed
  rw [getD_lt _ _ (by simpa using hi), getD_lt _ _ hi]; simp
theorem flow_ws {g : Gr} (h : g.OK) : Flow g g.ws := by
  refine ⟨by simp [Gr.ws], fun i hi => ?_, fun p => sm_eq fun i hi => ?_, ?_⟩
  · show 0 ≤ g.ws.getD i 0
    rw [ws_at hi]; exact (h.es _ (Gr.edge h hi).1).2.2.1.1
  · show g.ws.getD i 0 * _ = _
    rw [ws_at hi]
  · refine Int.le_of_eq (sm_eq fun i hi => ?_)
    show _ = g.ws.getD i 0 * _
    rw [ws_at hi]
structure Gr.Small (g : Gr) : Prop where
  n : g.lat.length ≤ 1000
  m : g.es.length ≤ 1000
theorem flow_bd {g : Gr} (h : g.OK) (hs : g.short = false) (hsm : g.Small) {fl : List Int} (hf : Flow g fl) {j : Nat} (hj : j < g.es.length) : fn fl j ≤ 1152921504606846976 := by
  obtain ⟨π, hπ, hb⟩ := pot_of h hs
  have hr : (((g.lat.length + 1) * g.es.length : Nat) : Int) ≤ 1001000 := by
    have : (g.lat.length + 1) * g.es.length ≤ 1001 * 1000 := Nat.mul_le_mul (by have := hsm.n; omega) hsm.m
    omega
  let X : Nat → Int := fun i => g.df π i - (g.nn + 1) * g.byE i
  have hX1 : ∀ i, i < g.es.length → 1 ≤ X i := fun i hi => by have := hπ i hi; show 1 ≤ g.df π i - _; omega
  have hX2 : ∀ i, i < g.es.length → X i ≤ 16804000000000 := fun i hi => by
    have h1 := byE_bd h i hi
    have h2 := hb (g.ed i).t.toNat
    have h3 := hb (g.ed i).f.toNat
    have h4 : (g.nn + 1) * (-1048576) ≤ (g.nn + 1) * g.byE i := Int.mul_le_mul_of_nonneg_left h1.1 (by unfold Gr.nn; omega)
    have h5 := hsm.n
    show g.df π i - _ ≤ _
    unfold Gr.df Gr.nn at *
    omega
  have e1 : ∀ u : Nat → Int, sm g.es.length (fun i => u i * X i) = sm g.es.length (fun i => u i * g.df π i) - (g.nn + 1) * sm g.es.length (fun i => u i * g.byE i) := fun u => by
    have : sm g.es.length (fun i => u i * g.df π i) = sm g.es.length (fun i => u i * X i) + sm g.es.length (fun i => (g.nn + 1) * (u i * g.byE i)) := by
      rw [← sm_add]
      refine sm_eq fun i hi => ?_
      show u i * g.df π i = u i * (g.df π i - (g.nn + 1) * g.byE i) + (g.nn + 1) * (u i * g.byE i)
      rw [Int.mul_sub, Int.mul_left_comm]; omega
    rw [this, sm_mul]; omega
  have h1 : fn fl j ≤ sm g.es.length (fun i => fn fl i * X i) := by
    have a := sm_one (m := g.es.length) (f := fun i => fn fl i * X i) (fun i hi => Int.mul_nonneg (hf.pos i hi) (by have := hX1 i hi; omega)) hj
    have b : fn fl j * 1 ≤ fn fl j * X j := Int.mul_le_mul_of_nonneg_left (hX1 j hj) (hf.pos j hj)
    have a : fn fl j * X j ≤ _ := a
    omega
  have h2 : sm g.es.length (fun i => fn fl i * X i) ≤ sm g.es.length (fun i => (g.ed i).w * X i) := by
    rw [e1, e1, hf.same π]
    have : (g.nn + 1) * _ ≤ (g.nn + 1) * _ := Int.mul_le_mul_of_nonneg_left hf.up (by unfold Gr.nn; omega)
    omega
  have h3 : sm g.es.length (fun i => (g.ed i).w * X i) ≤ sm g.es.length (fun i => 64 * 16804000000000) := sm_le fun i hi => by
    have hw := (h.es _ (Gr.edge h hi).1).2.2.1
    have a : (g.ed i).w * X i ≤ (g.ed i).w * 16804000000000 := Int.mul_le_mul_of_nonneg_left (hX2 i hi) hw.1
    have hw : 0 ≤ (g.ed i).w ∧ (g.ed i).w ≤ 64 := hw
    omega
  rw [sm_const] at h3
  have h4 := hsm.m
  omega

/-- A flow changed along a cycle. -/
def minBack (fl : List Int) (c : List Arc) : Int := c.foldl (fun n a => if a.b = true ∧ (n < 0 ∨ fl.getD a.e.toNat 0 < n) then fl.getD a.e.toNat 0 else n) (-1)
def push1 (n : Int) (fl : List Int) (a : Arc) : List Int := fl.set a.e.toNat (if a.b = true then fl.getD a.e.toNat 0 - n else fl.getD a.e.toNat 0 + n)
def pushTo (n : Int) (fl : List Int) (c : List Arc) (i : Nat) : List Int := (c.take i).foldl (push1 n) fl
def cancel (fl : List Int) (c : List Arc) : List Int := pushTo (minBack fl c) fl c c.length
def minTo (fl : List Int) (c : List Arc) (i : Nat) : Int := (c.take i).foldl (fun n a => if a.b = true ∧ (n < 0 ∨ fl.getD a.e.toNat 0 < n) then fl.getD a.e.toNat 0 else n) (-1)
theorem minTo_succ {fl : List Int} {c : List Arc} {i : Nat} (h : i < c.length) : minTo fl c (i + 1) = if (c.getD i default).b = true ∧ (minTo fl c i < 0 ∨ fl.getD (c.getD i default).e.toNat 0 < minTo fl c i) then fl.getD (c.getD i default).e.toNat 0 else minTo fl c i := by
  unfold minTo
  rw [List.take_add_one, List.getElem?_eq_getElem h, List.foldl_append, getD_lt _ _ h]
  rfl
theorem pushTo_succ {n : Int} {fl : List Int} {c : List Arc} {i : Nat} (h : i < c.length) : pushTo n fl c (i + 1) = push1 n (pushTo n fl c i) (c.getD i default) := by
  unfold pushTo
  rw [List.take_add_one, List.getElem?_eq_getElem h, List.foldl_append, getD_lt _ _ h]
  rfl
theorem minTo_spec {fl : List Int} {c : List Arc} (h0 : ∀ i, i < c.length → 0 ≤ fl.getD (c.getD i default).e.toNat 0) : ∀ i, i ≤ c.length →
    (minTo fl c i = -1 ∧ ∀ k, k < i → (c.getD k default).b = false) ∨ (0 ≤ minTo fl c i ∧ (∃ k, k < i ∧ (c.getD k default).b = true ∧ minTo fl c i = fl.getD (c.getD k default).e.toNat 0) ∧ ∀ k, k < i → (c.getD k default).b = true → minTo fl c i ≤ fl.getD (c.getD k default).e.toNat 0)
  | 0, _ => .inl ⟨rfl, fun k hk => by omega⟩
  | i + 1, hi => by
    have h1 := h0 i (by omega)
    rw [minTo_succ (by omega)]
    rcases minTo_spec h0 i (by omega) with ⟨hm, hall⟩ | ⟨hm, ⟨k, hk, hb, he⟩, hall⟩
    · by_cases hb : (c.getD i default).b = true
      · rw [if_pos ⟨hb, .inl (by omega)⟩]
        refine .inr ⟨h1, ⟨i, by omega, hb, rfl⟩, fun k hk hbk => ?_⟩
        by_cases e : k = i
        · subst e; exact Int.le_refl _
        · rw [hall k (by omega)] at hbk; cases hbk
      · rw [if_neg (fun h => hb h.1)]
        refine .inl ⟨hm, fun k hk => ?_⟩
        by_cases e : k = i
        · subst e; simpa using hb
        · exact hall k (by omega)
    · by_cases hb2 : (c.getD i default).b = true ∧ (minTo fl c i < 0 ∨ fl.getD (c.getD i default).e.toNat 0 < minTo fl c i)
      · rw [if_pos hb2]
        refine .inr ⟨h1, ⟨i, by omega, hb2.1, rfl⟩, fun k hk hbk => ?_⟩
        by_cases e : k = i
        · subst e; exact Int.le_refl _
        · have := hall k (by omega) hbk; omega
      · rw [if_neg hb2]
        refine .inr ⟨hm, ⟨k, by omega, hb, he⟩, fun k' hk' hbk => ?_⟩
        by_cases e : k' = i
        · subst e
          by_cases h2 : fl.getD (c.getD k' default).e.toNat 0 < minTo fl c k'
          · exact absurd ⟨hbk, .inr h2⟩ hb2
          · omega
        · exact hall k' (by omega) hbk
theorem minBack_eq (fl : List Int) (c : List Arc) : minBack fl c = minTo fl c c.length := by unfold minBack minTo; rw [List.take_length]

/-- The changes, arc by arc. -/
theorem net_arc {g : Gr} {fl : List Int} {a : Arc} (ha : a ∈ (g.net fl).as) : a.e.toNat < g.es.length ∧ a.e = ((a.e.toNat : Nat) : Int) ∧ (a.b = false → a = g.fwd a.e.toNat) ∧ (a.b = true → 0 < fl.getD a.e.toNat 0 ∧ a = g.bwd a.e.toNat) := by
  obtain ⟨i, hi, ha⟩ := mem_net.1 ha
  rcases ha with rfl | ⟨hf, rfl⟩
  · exact ⟨by show ((i : Nat) : Int).toNat < _; omega, rfl, fun _ => rfl, (fun h => by cases h)⟩
  · exact ⟨by show ((i : Nat) : Int).toNat < _; omega, rfl, (fun h => by cases h), fun _ => ⟨hf, rfl⟩⟩
structure PInv (g : Gr) (fl : List Int) (c : List Arc) (n : Int) (i : Nat) : Prop where
  len : (pushTo n fl c i).length = g.es.length
  lo : ∀ j, j < g.es.length → fn fl j - n ≤ fn (pushTo n fl c i) j
  lo' : ∀ j, j < g.es.length → (∀ k, k < i → c.getD k default ≠ g.bwd j) → fn fl j ≤ fn (pushTo n fl c i) j
  hi : ∀ j, j < g.es.length → fn (pushTo n fl c i) j ≤ fn fl j + n
  hi' : ∀ j, j < g.es.length → (∀ k, k < i → c.getD k default ≠ g.fwd j) → fn (pushTo n fl c i) j ≤ fn fl j
  sum : ∀ φ : Nat → Int, sm g.es.length (fun j => fn (pushTo n fl c i) j * φ j) = sm g.es.length (fun j => fn fl j * φ j) + n * sm i (fun k => if (c.getD k default).b = true then -φ (c.getD k default).e.toNat else φ (c.getD k default).e.toNat)
theorem sm_set {m : Nat} {l : List Int} {j : Nat} {x : Int} (hl : l.length = m) (hj : j < m) (φ : Nat → Int) : sm m (fun i => fn (l.set j x) i * φ i) = sm m (fun i => fn l i * φ i) + (x - fn l j) * φ j := by
  have hat : ∀ i, fn (l.set j x) i = if j = i then x else fn l i := fun i => getD_set (by omega)
  have key : ∀ k, sm k (fun i => fn (l.set j x) i * φ i) = sm k (fun i => fn l i * φ i) + if j < k then (x - fn l j) * φ j else 0 := by
    intro k
    induction k with
    | zero => simp [sm]
    | succ k ih =>
      show sm k (fun i => fn (l.set j x) i * φ i) + fn (l.set j x) k * φ k = (sm k (fun i => fn l i * φ i) + fn l k * φ k) + _
      rw [ih, hat]
      by_cases e : j = k
      · subst e
        rw [if_neg (Nat.lt_irrefl _), if_pos rfl, if_pos (by omega), Int.sub_mul]; omega
      · rw [if_neg e]
        by_cases h : j < k
        · rw [if_pos h, if_pos (by omega)]; omega
        · rw [if_neg h, if_neg (by omega)]; omega
  rw [key, if_pos hj]
theorem pinv {g : Gr} {fl : List Int} {c : List Arc} (hc : NCyc (g.net fl) c) (hf : fl.length = g.es.length) {n : Int} (hn : 0 ≤ n) : ∀ i, i ≤ c.length → PInv g fl c n i
  | 0, _ => ⟨hf, fun j hj => by show _ ≤ fn fl j; omega, fun j hj _ => Int.le_refl _, fun j hj => by show fn fl j ≤ _; omega, fun j hj _ => Int.le_refl _, fun φ => by show sm g.es.length (fun j => fn fl j * φ j) = _ + n * 0; omega⟩
  | i + 1, hi => by
    have I := pinv hc hf hn i (by omega)
    obtain ⟨a, ha⟩ : ∃ a, c.getD i default = a := ⟨_, rfl⟩
    obtain ⟨he, heq, hfw, hbw⟩ := net_arc (ha ▸ hc.mem i (by omega))
    obtain ⟨x, hx⟩ : ∃ x, (if a.b = true then (pushTo n fl c i).getD a.e.toNat 0 - n else (pushTo n fl c i).getD a.e.toNat 0 + n) = x := ⟨_, rfl⟩
    have hst : pushTo n fl c (i + 1) = (pushTo n fl c i).set a.e.toNat x := by rw [pushTo_succ (by omega), ha]; unfold push1; rw [hx]
    have hat : ∀ j, fn (pushTo n fl c (i + 1)) j = if a.e.toNat = j then x else fn (pushTo n fl c i) j := fun j => by rw [hst]; exact getD_set (by rw [I.len]; exact he)
    have hnb : a.b = true → ∀ k, k < i → c.getD k default ≠ g.bwd a.e.toNat := fun hb k hk e => by
      have := hc.dist k i hk (by omega)
      rw [ha, e, ← (hbw hb).2] at this
      exact this rfl
    have hnf : a.b = false → ∀ k, k < i → c.getD k default ≠ g.fwd a.e.toNat := fun hb k hk e => by
      have := hc.dist k i hk (by omega)
      rw [ha, e, ← hfw hb] at this
      exact this rfl
    have hxv : x = fn (pushTo n fl c i) a.e.toNat + (if a.b = true then -n else n) := by rw [← hx]; unfold fn; split <;> omega
    have h1 := I.lo _ he
    have h2 := I.hi _ he
    refine ⟨by rw [hst]; simpa using I.len, fun j hj => ?_, fun j hj hk => ?_, fun j hj => ?_, fun j hj hk => ?_, fun φ => ?_⟩
    · rw [hat]
      split
      · rename_i e; subst e
        rw [hxv]
        split
        · rename_i hb; have := I.lo' _ he (hnb hb); omega
        · omega
      · exact I.lo j hj
    · rw [hat]
      split
      · rename_i e; subst e
        have h3 := I.lo' _ he fun k hk' => hk k (by omega)
        rw [hxv]
        split
        · rename_i hb; exact absurd (by rw [ha]; exact (hbw hb).2) (hk i (by omega))
        · omega
      · exact I.lo' j hj fun k hk' => hk k (by omega)
    · rw [hat]
      split
      · rename_i e; subst e
        rw [hxv]
        split
        · omega
        · rename_i hb; have := I.hi' _ he (hnf (by simpa using hb)); omega
      · exact I.hi j hj
    · rw [hat]
      split
      · rename_i e; subst e
        have h3 := I.hi' _ he fun k hk' => hk k (by omega)
        rw [hxv]
        split
        · omega
        · rename_i hb; exact absurd (by rw [ha]; exact hfw (by simpa using hb)) (hk i (by omega))
      · exact I.hi' j hj fun k hk' => hk k (by omega)
    · rw [hst, sm_set I.len he, I.sum φ]
      show _ = _ + n * (sm i _ + (if (c.getD i default).b = true then -φ (c.getD i default).e.toNat else φ (c.getD i default).e.toNat))
      rw [ha, hxv, Int.mul_add, show ∀ u v : Int, u + v - u = v from fun u v => by omega]
      split
      · rw [Int.neg_mul, Int.mul_neg]; omega
      · omega
theorem flow_stepN {g : Gr} (h : g.OK) (hs : g.short = false) {fl : List Int} (hf : Flow g fl) {c : List Arc} (hc : NCyc (g.net fl) c) : 0 < minBack fl c ∧ (∃ j, j < g.es.length ∧ minBack fl c = fn fl j) ∧ ∀ n, 0 < n → n ≤ minBack fl c → Flow g (pushTo n fl c c.length) ∧ sm g.es.length (fun i => fn fl i * g.byE i) + 1 ≤ sm g.es.length (fun i => fn (pushTo n fl c c.length) i * g.byE i) := by
  have harc := fun i hi => net_arc (hc.mem i hi)
  have h0 : ∀ i, i < c.length → 0 ≤ fl.getD (c.getD i default).e.toNat 0 := fun i hi => hf.pos _ (harc i hi).1
  obtain ⟨ib, hib, hbb⟩ := ncyc_back h hs hc
  rcases minTo_spec h0 c.length (Nat.le_refl _) with ⟨_, hall⟩ | ⟨hm, ⟨k, hk, hb, he⟩, hall⟩
  · rw [hall ib hib] at hbb; cases hbb
  · rw [← minBack_eq] at hm he
    have hall : ∀ k, k < c.length → (c.getD k default).b = true → minBack fl c ≤ fl.getD (c.getD k default).e.toNat 0 := fun k h1 h2 => by rw [minBack_eq]; exact hall k h1 h2
    have hpos : 0 < minBack fl c := by rw [he]; exact ((harc k hk).2.2.2 hb).1
    refine ⟨hpos, ⟨_, (harc k hk).1, he⟩, fun n hn0 hnle => ?_⟩
    have I := pinv hc hf.len (Int.le_of_lt hn0) c.length (Nat.le_refl _)
    have hsgn : ∀ φ : Nat → Int, sm c.length (fun k => if (c.getD k default).b = true then -φ (c.getD k default).e.toNat else φ (c.getD k default).e.toNat) = sm c.length (fun k => if (c.getD k default).b = true then -φ (c.getD k default).e.toNat else φ (c.getD k default).e.toNat) := fun _ => rfl
    have e1 : ∀ p : Nat → Int, sm c.length (fun k => if (c.getD k default).b = true then -g.df p (c.getD k default).e.toNat else g.df p (c.getD k default).e.toNat) = 0 := fun p => by
      rw [← hc.tele p]
      refine sm_eq fun i hi => ?_
      obtain ⟨_, _, h3, h4⟩ := harc i hi
      by_cases hb : (c.getD i default).b = true
      · rw [if_pos hb]
        have := (h4 hb).2
        generalize (c.getD i default) = a at this ⊢
        rw [this]
        show -(p (g.ed a.e.toNat).t.toNat - p (g.ed a.e.toNat).f.toNat) = p (g.ed a.e.toNat).f.toNat - p (g.ed a.e.toNat).t.toNat
        omega
      · rw [if_neg hb]
        have := h3 (by simpa using hb)
        generalize (c.getD i default) = a at this ⊢
        rw [this]
        rfl
    have e2 : sm c.length (fun k => if (c.getD k default).b = true then -g.byE (c.getD k default).e.toNat else g.byE (c.getD k default).e.toNat) = sm c.length (fun i => (c.getD i default).by_) := sm_eq fun i hi => by
      obtain ⟨_, _, h3, h4⟩ := harc i hi
      by_cases hb : (c.getD i default).b = true
      · rw [if_pos hb]
        have := (h4 hb).2
        generalize (c.getD i default) = a at this ⊢
        rw [this]
        rfl
      · rw [if_neg hb]
        have := h3 (by simpa using hb)
        generalize (c.getD i default) = a at this ⊢
        rw [this]
        rfl
    have hup : sm g.es.length (fun i => fn fl i * g.byE i) + 1 ≤ sm g.es.length (fun i => fn (pushTo n fl c c.length) i * g.byE i) := by
      have := I.sum g.byE
      rw [this, e2]
      have h9 := hc.grow
      have h10 : 1 * sm c.length (fun i => (c.getD i default).by_) ≤ n * sm c.length (fun i => (c.getD i default).by_) := Int.mul_le_mul_of_nonneg_right hn0 (by omega)
      omega
    refine ⟨⟨I.len, fun j hj => ?_, fun p => ?_, ?_⟩, hup⟩
    · by_cases hx : ∃ k, k < c.length ∧ c.getD k default = g.bwd j
      · obtain ⟨k, hk, e⟩ := hx
        have h1 := I.lo j hj
        have h2 := hall k hk (by rw [e]; rfl)
        rw [e] at h2
        have h2 : minBack fl c ≤ fn fl j := by show _ ≤ fl.getD j 0; simpa [Gr.bwd, Gr.bwdC] using h2
        omega
      · have := I.lo' j hj fun k hk e => hx ⟨k, hk, e⟩
        have := hf.pos j hj
        omega
    · rw [I.sum (g.df p), e1, hf.same p]; simp
    · have := hf.up; omega

theorem flow_step {g : Gr} (h : g.OK) (hs : g.short = false) {fl : List Int} (hf : Flow g fl) {c : List Arc} (hc : NCyc (g.net fl) c) : 0 < minBack fl c ∧ (∃ j, j < g.es.length ∧ minBack fl c = fn fl j) ∧ Flow g (cancel fl c) ∧ sm g.es.length (fun i => fn fl i * g.byE i) + 1 ≤ sm g.es.length (fun i => fn (cancel fl c) i * g.byE i) := by
  obtain ⟨h1, h2, h3⟩ := flow_stepN h hs hf hc
  exact ⟨h1, h2, h3 _ h1 (Int.le_refl _)⟩

/-! The plan of least memory. -/
def Gr.mkP (g : Gr) : Nat → List Int → Option (List Int)
  | 0, _ => none
  | k + 1, fl => if (g.net fl).run.node < 0 then some (g.net fl).run.at_ else g.mkP k (cancel fl (g.net fl).cyc)
theorem mk_some {g : Gr} (h : g.OK) (hs : g.short = false) : ∀ (k : Nat) (fl : List Int), Flow g fl → sm g.es.length (fun i => (g.ed i).w * g.df (fn g.low) i) - sm g.es.length (fun i => fn fl i * g.byE i) < (k : Int) → ∃ at_, g.mkP k fl = some at_
  | 0, fl, hf, hk => by
    have hl := low_spec h hs
    have h1 : 0 ≤ sm g.es.length (fun i => fn fl i * g.sl (fn g.low) i) := sm_nonneg fun i hi => Int.mul_nonneg (hf.pos i hi) (hl.feas.sl i hi)
    have h2 : sm g.es.length (fun i => fn fl i * g.df (fn g.low) i) = sm g.es.length (fun i => fn fl i * g.sl (fn g.low) i) + sm g.es.length (fun i => fn fl i * g.byE i) := by
      rw [← sm_add]
      exact sm_eq fun i _ => by rw [sl_df, Int.mul_sub]; omega
    rw [← hf.same] at hk
    omega
  | k + 1, fl, hf, hk => by
    show ∃ at_, (if (g.net fl).run.node < 0 then some (g.net fl).run.at_ else g.mkP k (cancel fl (g.net fl).cyc)) = some at_
    split
    · exact ⟨_, rfl⟩
    · rename_i hq
      obtain ⟨_, _, hf', hup⟩ := flow_step h hs hf (ncyc_of h hq)
      exact mk_some h hs k _ hf' (by omega)
theorem mk_more {g : Gr} : ∀ {k : Nat} {fl at_ : List Int}, g.mkP k fl = some at_ → ∀ d, g.mkP (k + d) fl = some at_
  | 0, _, _, h, _ => by cases h
  | k + 1, fl, at_, h, d => by
    rw [show k + 1 + d = (k + d) + 1 by omega]
    have h : (if (g.net fl).run.node < 0 then some (g.net fl).run.at_ else g.mkP k (cancel fl (g.net fl).cyc)) = some at_ := h
    show (if (g.net fl).run.node < 0 then some (g.net fl).run.at_ else g.mkP (k + d) (cancel fl (g.net fl).cyc)) = some at_
    split at h
    · rename_i hq; rw [if_pos hq]; exact h
    · rename_i hq; rw [if_neg hq]; exact mk_more h d
/-- Positions of least memory; of these, the least. -/
structure Best (g : Gr) (at_ : List Int) : Prop where
  len : at_.length = g.lat.length
  feas : Feas g (fn at_)
  min : ∀ p, Feas g p → g.mem (fn at_) ≤ g.mem p
  least : ∀ p, Feas g p → g.mem p = g.mem (fn at_) → ∀ v, v < g.lat.length → fn at_ v ≤ p v
theorem mem_flow {g : Gr} {fl : List Int} (hf : Flow g fl) (p : Nat → Int) : g.mem p = sm g.es.length (fun i => fn fl i * g.sl p i) + (sm g.es.length (fun i => fn fl i * g.byE i) - sm g.es.length (fun i => (g.ed i).w * g.byE i)) := by
  have a : ∀ u : Nat → Int, sm g.es.length (fun i => u i * g.df p i) = sm g.es.length (fun i => u i * g.sl p i) + sm g.es.length (fun i => u i * g.byE i) := fun u => by
    rw [← sm_add]
    exact sm_eq fun i _ => by rw [sl_df, Int.mul_sub]; omega
  have h1 := a (fn fl)
  have h2 := a fun i => (g.ed i).w
  have h3 := hf.same p
  have h4 : g.mem p = sm g.es.length (fun i => (g.ed i).w * g.sl p i) := sm_eq fun i _ => Int.mul_comm _ _
  omega
theorem quiet_best {g : Gr} (h : g.OK) {fl : List Int} (hf : Flow g fl) (hq : (g.net fl).run.node < 0) : Best g (g.net fl).run.at_ := by
  obtain ⟨h1, h2, h3, h4⟩ := quiet_pos h hq
  have h5 := meets_iff.1 h3
  have hz : sm g.es.length (fun i => fn fl i * g.sl (fn (g.net fl).run.at_) i) = 0 := by
    rw [show (0 : Int) = sm g.es.length (fun _ => 0) from sm_zero.symm]
    refine sm_eq fun i hi => ?_
    obtain ⟨a, b⟩ := h5 i hi
    have hp := hf.pos i hi
    by_cases e : 0 < fl.getD i 0
    · have e1 : g.sl (g.net fl).run.A i = 0 := by have := b e; omega
      show fn fl i * g.sl (g.net fl).run.A i = 0
      rw [e1]; simp
    · have e1 : fn fl i = 0 := by show fl.getD i 0 = 0; have hp : 0 ≤ fl.getD i 0 := hp; omega
      rw [e1]; simp
  have hm := mem_flow hf
  refine ⟨h1, h2, fun p hp => ?_, fun p hp he => ?_⟩
  · have := sm_nonneg (m := g.es.length) (f := fun i => fn fl i * g.sl p i) fun i hi => Int.mul_nonneg (hf.pos i hi) (hp.sl i hi)
    rw [hm, hm p, hz]; omega
  · rw [hm, hm (fn (g.net fl).run.at_), hz] at he
    have hs0 : sm g.es.length (fun i => fn fl i * g.sl p i) ≤ 0 := by omega
    refine h4 p hp.pos (meets_iff.2 fun i hi => ⟨hp.sl i hi, fun hpos => ?_⟩)
    have := sm_one_neg (f := fun i => fn fl i * g.sl p i) (fun i hi => Int.mul_nonneg (hf.pos i hi) (hp.sl i hi)) hs0 hi
    rcases Int.mul_eq_zero.1 this with e | e
    · have e : fl.getD i 0 = 0 := e
      omega
    · omega
theorem mk_best {g : Gr} (h : g.OK) (hs : g.short = false) : ∀ {k : Nat} {fl at_ : List Int}, Flow g fl → g.mkP k fl = some at_ → Best g at_
  | 0, _, _, _, e => by cases e
  | k + 1, fl, at_, hf, e => by
    have e : (if (g.net fl).run.node < 0 then some (g.net fl).run.at_ else g.mkP k (cancel fl (g.net fl).cyc)) = some at_ := e
    split at e
    · rename_i hq; injection e with e; subst e; exact quiet_best h hf hq
    · rename_i hq; exact mk_best h hs (flow_step h hs hf (ncyc_of h hq)).2.2.1 e
theorem best_unique {g : Gr} {a b : List Int} (ha : Best g a) (hb : Best g b) : a = b := ext_fn (ha.len.trans hb.len.symm) fun k hk => by
  have e1 := ha.min _ hb.feas
  have e2 := hb.min _ ha.feas
  have h1 := ha.least _ hb.feas (by omega) k (by rw [← ha.len]; exact hk)
  have h2 := hb.least _ ha.feas (by omega) k (by rw [← ha.len]; exact hk)
  omega
/-- Its positions; none, where there is none. -/
noncomputable def Gr.best (g : Gr) : List Int := open Classical in if h : ∃ k a, g.mkP k g.ws = some a then h.choose_spec.choose else []
theorem best_of {g : Gr} {k : Nat} {a : List Int} (h : g.mkP k g.ws = some a) : g.best = a := by
  have hx : ∃ k a, g.mkP k g.ws = some a := ⟨k, a, h⟩
  unfold Gr.best
  rw [dif_pos hx]
  have h2 := hx.choose_spec.choose_spec
  generalize hx.choose_spec.choose = b at h2 ⊢
  generalize hx.choose = k' at h2
  have e1 := mk_more h k'
  have e2 := mk_more h2 k
  rw [Nat.add_comm, e1] at e2
  injection e2 with e2
  exact e2.symm
theorem best_mk {g : Gr} (h : g.OK) (hs : g.short = false) : ∃ k, g.mkP k g.ws = some g.best ∧ Best g g.best := by
  obtain ⟨a, ha⟩ := mk_some h hs ((sm g.es.length (fun i => (g.ed i).w * g.df (fn g.low) i) - sm g.es.length (fun i => fn g.ws i * g.byE i)).toNat + 1) g.ws (flow_ws h) (by omega)
  have e := best_of ha
  exact ⟨_, by rw [e]; exact ha, by rw [e]; exact mk_best h hs (flow_ws h) ha⟩

end Go.Proofs.Ytcidkahhfdcddaa

/- Flows that certify plans, in plain Lean. No program in sight. -/
namespace Go.Proofs.Ytcidkahhfdcddaa
set_option linter.unusedVariables false
set_option linter.unusedSimpArgs false

/-- What a flow proves. -/
def Gr.bnd (g : Gr) (fl : List Int) (i : Nat) : Int := sm i fun i => ((g.ed i).w - fn fl i) * ((g.ed i).d - g.lat.getD (g.ed i).f.toNat 0)
def Same (g : Gr) (fl : List Int) : Prop := ∀ p : Nat → Int, sm g.es.length (fun i => fn fl i * g.df p i) = sm g.es.length (fun i => (g.ed i).w * g.df p i)
theorem bnd_eq (g : Gr) (fl : List Int) : g.bnd fl g.es.length = sm g.es.length (fun i => fn fl i * g.byE i) - sm g.es.length (fun i => (g.ed i).w * g.byE i) := by
  have h : sm g.es.length (fun i => fn fl i * g.byE i) = g.bnd fl g.es.length + sm g.es.length (fun i => (g.ed i).w * g.byE i) := by
    unfold Gr.bnd
    rw [← sm_add]
    refine sm_eq fun i _ => ?_
    have e : (g.ed i).d - g.lat.getD (g.ed i).f.toNat 0 = -g.byE i := by unfold Gr.byE; omega
    rw [e, Int.mul_neg, Int.sub_mul]; omega
  omega
theorem mem_same {g : Gr} {fl : List Int} (hf : Same g fl) (p : Nat → Int) : g.mem p = sm g.es.length (fun i => fn fl i * g.sl p i) + g.bnd fl g.es.length := by
  have a : ∀ u : Nat → Int, sm g.es.length (fun i => u i * g.df p i) = sm g.es.length (fun i => u i * g.sl p i) + sm g.es.length (fun i => u i * g.byE i) := fun u => by
    rw [← sm_add]
    exact sm_eq fun i _ => by rw [sl_df, Int.mul_sub]; omega
  have h1 := a (fn fl)
  have h2 := a fun i => (g.ed i).w
  have h3 := hf p
  have h4 : g.mem p = sm g.es.length (fun i => (g.ed i).w * g.sl p i) := sm_eq fun i _ => Int.mul_comm _ _
  rw [bnd_eq]
  omega
theorem bnd_le {g : Gr} {fl : List Int} (hf : Same g fl) (h0 : ∀ i, i < g.es.length → 0 ≤ fn fl i) {p : Nat → Int} (hp : Feas g p) : g.bnd fl g.es.length ≤ g.mem p := by
  rw [mem_same hf p]
  have := sm_nonneg (m := g.es.length) (f := fun i => fn fl i * g.sl p i) fun i hi => Int.mul_nonneg (h0 i hi) (hp.sl i hi)
  omega

/-! The residual arcs of a plan: an edge costs what it holds. -/
def CB : Int := 1100000000000
abbrev Gr.netD (g : Gr) (p : Nat → Int) (fl : List Int) : Net := g.netC (fun i => -g.sl p i) CB fl
structure Low40 (g : Gr) (p : Nat → Int) : Prop where
  feas : Feas g p
  bd : ∀ i, i < g.es.length → g.sl p i ≤ 1099512676352
theorem netD_ok {g : Gr} (h : g.OK) {p : Nat → Int} (hp : Low40 g p) (fl : List Int) : (g.netD p fl).OK := netC_ok h (fun i hi => by have := hp.feas.sl i hi; have := hp.bd i hi; unfold CB; omega) fl
theorem netD_T {g : Gr} (hn : g.lat.length ≤ 40) (hm : g.es.length ≤ 100) (p : Nat → Int) (fl : List Int) : ((((g.netD p fl).n + 1) * (g.netD p fl).as.length : Nat) : Int) * (g.netD p fl).B ≤ 1152921504606846976 := by
  have h2 := netC_len g (fun i => -g.sl p i) CB fl
  have h3 : (((g.netD p fl).n + 1) * (g.netD p fl).as.length : Nat) ≤ 41 * 200 := Nat.mul_le_mul (by show g.lat.length + 1 ≤ _; omega) (by show (g.netC _ CB fl).as.length ≤ _; omega)
  show _ * (1100000000000 : Int) ≤ _
  omega
theorem netD_B (g : Gr) (p : Nat → Int) (fl : List Int) : 0 ≤ (g.netD p fl).B := by show (0 : Int) ≤ 1100000000000; decide
/-- An arc's like among the arcs of the graph. -/
def Gr.toArc (g : Gr) (a : Arc) : Arc := if a.b = true then g.bwd a.e.toNat else g.fwd a.e.toNat
theorem netC_arc {g : Gr} {c : Nat → Int} {B : Int} {fl : List Int} {a : Arc} (ha : a ∈ (g.netC c B fl).as) : a.e.toNat < g.es.length ∧ a.e = ((a.e.toNat : Nat) : Int) ∧ (a.b = false → a = g.fwdC c a.e.toNat) ∧ (a.b = true → 0 < fl.getD a.e.toNat 0 ∧ a = g.bwdC c a.e.toNat) := by
  obtain ⟨i, hi, ha⟩ := mem_net.1 ha
  rcases ha with rfl | ⟨hf, rfl⟩
  · exact ⟨by show ((i : Nat) : Int).toNat < _; omega, rfl, fun _ => rfl, (fun h => by cases h)⟩
  · exact ⟨by show ((i : Nat) : Int).toNat < _; omega, rfl, (fun h => by cases h), fun _ => ⟨hf, rfl⟩⟩
theorem toArc_facts {g : Gr} {c : Nat → Int} {B : Int} {fl : List Int} {a : Arc} (ha : a ∈ (g.netC c B fl).as) : g.toArc a ∈ (g.net fl).as ∧ (g.toArc a).f = a.f ∧ (g.toArc a).t = a.t ∧ (g.toArc a).e = a.e ∧ (g.toArc a).b = a.b ∧
    (g.toArc a).by_ = a.by_ + (if a.b = true then -(g.byE a.e.toNat - c a.e.toNat) else g.byE a.e.toNat - c a.e.toNat) := by
  obtain ⟨i, hi, ha⟩ := mem_net.1 ha
  rcases ha with rfl | ⟨hf, rfl⟩
  · refine ⟨mem_net.2 ⟨i, hi, .inl rfl⟩, rfl, rfl, rfl, rfl, ?_⟩
    show g.byE i = c i + (g.byE i - c i)
    omega
  · refine ⟨mem_net.2 ⟨i, hi, .inr ⟨hf, rfl⟩⟩, rfl, rfl, rfl, rfl, ?_⟩
    show -g.byE i = -c i + -(g.byE i - c i)
    omega
theorem getDA_map {g : Gr} {c : List Arc} {i : Nat} (hi : i < c.length) : (c.map g.toArc).getD i default = g.toArc (c.getD i default) := by
  rw [getD_lt _ _ (by simpa using hi), getD_lt _ _ hi]; simp
theorem ncyc_map {g : Gr} {p : Nat → Int} {fl : List Int} {c : List Arc} (hc : NCyc (g.netD p fl) c) : NCyc (g.net fl) (c.map g.toArc) := by
  have hl : (c.map g.toArc).length = c.length := by simp
  have hm := fun i hi => toArc_facts (hc.mem i hi)
  refine ⟨by rw [hl]; exact hc.len, fun i hi => ?_, fun i j hij hj => ?_, fun q => ?_, ?_⟩
  · rw [hl] at hi; rw [getDA_map hi]; exact (hm i hi).1
  · rw [hl] at hj
    rw [getDA_map (by omega), getDA_map hj, (hm i (by omega)).2.2.1, (hm j hj).2.2.1]
    exact hc.dist i j hij hj
  · rw [hl, ← hc.tele q]
    exact sm_eq fun i hi => by rw [getDA_map hi, (hm i hi).2.2.1, (hm i hi).2.1]
  · rw [hl]
    have e : sm c.length (fun i => ((c.map g.toArc).getD i default).by_) = sm c.length (fun i => (c.getD i default).by_) + sm c.length (fun i => p (c.getD i default).t.toNat - p (c.getD i default).f.toNat) := by
      rw [← sm_add]
      refine sm_eq fun i hi => ?_
      rw [getDA_map hi, (hm i hi).2.2.2.2.2]
      obtain ⟨_, _, h3, h4⟩ := netC_arc (hc.mem i hi)
      have hs : ∀ j, g.byE j - -g.sl p j = g.df p j := fun j => by rw [sl_df]; omega
      by_cases hb : (c.getD i default).b = true
      · rw [if_pos hb, hs]
        have := (h4 hb).2
        generalize (c.getD i default) = a at this ⊢
        rw [this]
        show _ + -g.df p a.e.toNat = _ + (p (g.ed a.e.toNat).f.toNat - p (g.ed a.e.toNat).t.toNat)
        unfold Gr.df; omega
      · rw [if_neg hb, hs]
        have := h3 (by simpa using hb)
        generalize (c.getD i default) = a at this ⊢
        rw [this]
        rfl
    rw [e, hc.tele p, Int.add_zero]
    exact hc.grow
theorem push_map {g : Gr} {p : Nat → Int} {fl : List Int} {c : List Arc} (hc : NCyc (g.netD p fl) c) (n : Int) : ∀ i, i ≤ c.length → pushTo n fl (c.map g.toArc) i = pushTo n fl c i
  | 0, _ => rfl
  | i + 1, hi => by
    have h := toArc_facts (hc.mem i (by omega))
    rw [pushTo_succ (by rw [List.length_map]; omega), pushTo_succ (by omega), push_map hc n i (by omega), getDA_map (by omega)]
    unfold push1
    rw [h.2.2.2.1, h.2.2.2.2.1]
/-- How much can be sent around: at most 2^20. -/
def roomTo (fl : List Int) (c : List Arc) (i : Nat) : Int := (c.take i).foldl (fun n a => if a.b = true then min n (fl.getD a.e.toNat 0) else n) 1048576
theorem roomTo_succ {fl : List Int} {c : List Arc} {i : Nat} (h : i < c.length) : roomTo fl c (i + 1) = if (c.getD i default).b = true then min (roomTo fl c i) (fl.getD (c.getD i default).e.toNat 0) else roomTo fl c i := by
  unfold roomTo
  rw [List.take_add_one, List.getElem?_eq_getElem h, List.foldl_append, getD_lt _ _ h]
  rfl
theorem roomTo_spec {fl : List Int} {c : List Arc} (h0 : ∀ i, i < c.length → (c.getD i default).b = true → 0 < fl.getD (c.getD i default).e.toNat 0) : ∀ i, i ≤ c.length →
    0 < roomTo fl c i ∧ roomTo fl c i ≤ 1048576 ∧ ∀ k, k < i → (c.getD k default).b = true → roomTo fl c i ≤ fl.getD (c.getD k default).e.toNat 0
  | 0, _ => ⟨by show (0 : Int) < 1048576; decide, by show (1048576 : Int) ≤ 1048576; decide, fun k hk => by omega⟩
  | i + 1, hi => by
    obtain ⟨h1, h2, h3⟩ := roomTo_spec h0 i (by omega)
    rw [roomTo_succ (by omega)]
    by_cases hb : (c.getD i default).b = true
    · rw [if_pos hb]
      have := h0 i (by omega) hb
      refine ⟨by omega, by omega, fun k hk hbk => ?_⟩
      by_cases e : k = i
      · subst e; omega
      · have := h3 k (by omega) hbk; omega
    · rw [if_neg hb]
      refine ⟨h1, h2, fun k hk hbk => ?_⟩
      by_cases e : k = i
      · subst e; exact absurd hbk hb
      · exact h3 k (by omega) hbk
def Gr.csend (g : Gr) (fl : List Int) (c : List Arc) : List Int := pushTo (roomTo fl c c.length) fl c c.length
theorem csend_step {g : Gr} (h : g.OK) (hs : g.short = false) {p : Nat → Int} {fl : List Int} (hf : Flow g fl) {c : List Arc} (hc : NCyc (g.netD p fl) c) : 0 < roomTo fl c c.length ∧ roomTo fl c c.length ≤ 1048576 ∧ Flow g (g.csend fl c) ∧ sm g.es.length (fun i => fn fl i * g.byE i) + 1 ≤ sm g.es.length (fun i => fn (g.csend fl c) i * g.byE i) := by
  have hcm := ncyc_map hc
  obtain ⟨_, hj, hst⟩ := flow_stepN h hs hf hcm
  obtain ⟨r1, r2, r3⟩ := roomTo_spec (fl := fl) (c := c) (fun i hi hb => ((netC_arc (hc.mem i hi)).2.2.2 hb).1) c.length (Nat.le_refl _)
  have hle : roomTo fl c c.length ≤ minBack fl (c.map g.toArc) := by
    rcases minTo_spec (fl := fl) (c := c.map g.toArc) (fun i hi => hf.pos _ (net_arc (hcm.mem i hi)).1) (c.map g.toArc).length (Nat.le_refl _) with ⟨hm, hall⟩ | ⟨_, ⟨k, hk, hb, he⟩, _⟩
    · obtain ⟨i, hi, hb⟩ := ncyc_back h hs hcm
      rw [hall i hi] at hb; cases hb
    · rw [minBack_eq, he]
      have hk' : k < c.length := by simpa using hk
      rw [getDA_map hk'] at hb ⊢
      have hfa := toArc_facts (hc.mem k hk')
      rw [hfa.2.2.2.1]
      rw [hfa.2.2.2.2.1] at hb
      exact r3 k hk' hb
  obtain ⟨a, b⟩ := hst _ r1 hle
  have hl : (c.map g.toArc).length = c.length := by simp
  rw [hl, push_map hc _ _ (Nat.le_refl _)] at a b
  exact ⟨r1, r2, a, b⟩
/-- The flow, changed as long as it can be cheaper. -/
def Gr.mkC (g : Gr) (p : Nat → Int) : Nat → List Int → Option (List Int)
  | 0, _ => none
  | k + 1, fl => if (g.netD p fl).run.node < 0 then some fl else g.mkC p k (g.csend fl (g.netD p fl).cyc)
theorem mkC_some {g : Gr} (h : g.OK) (hs : g.short = false) {p : Nat → Int} (hp : Low40 g p) : ∀ (k : Nat) (fl : List Int), Flow g fl → sm g.es.length (fun i => (g.ed i).w * g.df (fn g.low) i) - sm g.es.length (fun i => fn fl i * g.byE i) < (k : Int) → ∃ r, g.mkC p k fl = some r
  | 0, fl, hf, hk => by
    have hl := low_spec h hs
    have h1 : 0 ≤ sm g.es.length (fun i => fn fl i * g.sl (fn g.low) i) := sm_nonneg fun i hi => Int.mul_nonneg (hf.pos i hi) (hl.feas.sl i hi)
    have h2 : sm g.es.length (fun i => fn fl i * g.df (fn g.low) i) = sm g.es.length (fun i => fn fl i * g.sl (fn g.low) i) + sm g.es.length (fun i => fn fl i * g.byE i) := by
      rw [← sm_add]
      exact sm_eq fun i _ => by rw [sl_df, Int.mul_sub]; omega
    rw [← hf.same] at hk
    omega
  | k + 1, fl, hf, hk => by
    show ∃ r, (if (g.netD p fl).run.node < 0 then some fl else g.mkC p k (g.csend fl (g.netD p fl).cyc)) = some r
    split
    · exact ⟨_, rfl⟩
    · rename_i hq
      obtain ⟨_, _, hf', hup⟩ := csend_step h hs hf (ncyc_run (netD_ok h hp fl) hq)
      exact mkC_some h hs hp k _ hf' (by omega)
theorem mkC_more {g : Gr} {p : Nat → Int} : ∀ {k : Nat} {fl r : List Int}, g.mkC p k fl = some r → ∀ d, g.mkC p (k + d) fl = some r
  | 0, _, _, h, _ => by cases h
  | k + 1, fl, r, h, d => by
    rw [show k + 1 + d = (k + d) + 1 by omega]
    have h : (if (g.netD p fl).run.node < 0 then some fl else g.mkC p k (g.csend fl (g.netD p fl).cyc)) = some r := h
    show (if (g.netD p fl).run.node < 0 then some fl else g.mkC p (k + d) (g.csend fl (g.netD p fl).cyc)) = some r
    split at h
    · rename_i hq; rw [if_pos hq]; exact h
    · rename_i hq; rw [if_neg hq]; exact mkC_more h d
theorem mkC_end {g : Gr} (h : g.OK) (hs : g.short = false) {p : Nat → Int} (hp : Low40 g p) : ∀ {k : Nat} {fl r : List Int}, Flow g fl → g.mkC p k fl = some r → Flow g r ∧ (g.netD p r).run.node < 0
  | 0, _, _, _, e => by cases e
  | k + 1, fl, r, hf, e => by
    have e : (if (g.netD p fl).run.node < 0 then some fl else g.mkC p k (g.csend fl (g.netD p fl).cyc)) = some r := e
    split at e
    · rename_i hq; injection e with e; subst e; exact ⟨hf, hq⟩
    · rename_i hq; exact mkC_end h hs hp (csend_step h hs hf (ncyc_run (netD_ok h hp fl) hq)).2.2.1 e
noncomputable def Gr.certF (g : Gr) (p : Nat → Int) : List Int := open Classical in if h : ∃ k a, g.mkC p k g.ws = some a then h.choose_spec.choose else []
theorem certF_of {g : Gr} {p : Nat → Int} {k : Nat} {a : List Int} (h : g.mkC p k g.ws = some a) : g.certF p = a := by
  have hx : ∃ k a, g.mkC p k g.ws = some a := ⟨k, a, h⟩
  unfold Gr.certF
  rw [dif_pos hx]
  have h2 := hx.choose_spec.choose_spec
  generalize hx.choose_spec.choose = b at h2 ⊢
  generalize hx.choose = k' at h2
  have e1 := mkC_more h k'
  have e2 := mkC_more h2 k
  rw [Nat.add_comm, e1] at e2
  injection e2 with e2
  exact e2.symm
theorem certF_mk {g : Gr} (h : g.OK) (hs : g.short = false) {p : Nat → Int} (hp : Low40 g p) : ∃ k, g.mkC p k g.ws = some (g.certF p) ∧ Flow g (g.certF p) ∧ (g.netD p (g.certF p)).run.node < 0 := by
  obtain ⟨a, ha⟩ := mkC_some h hs hp ((sm g.es.length (fun i => (g.ed i).w * g.df (fn g.low) i) - sm g.es.length (fun i => fn g.ws i * g.byE i)).toNat + 1) g.ws (flow_ws h) (by omega)
  have e := certF_of ha
  obtain ⟨h1, h2⟩ := mkC_end h hs hp (flow_ws h) ha
  exact ⟨_, by rw [e]; exact ha, by rw [e]; exact h1, by rw [e]; exact h2⟩

/-! Where it ends: the flow proves the least memory, and is small. -/
theorem quiet_tight {g : Gr} (h : g.OK) {p : Nat → Int} (hp : Low40 g p) {fl : List Int} (hq : (g.netD p fl).run.node < 0) : ∃ r, Feas g r ∧ ∀ i, i < g.es.length → 0 < fl.getD i 0 → g.sl r i = 0 := by
  have hN := netD_ok h hp fl
  rcases lrun_cases hN with ⟨_, hm⟩ | ⟨⟨v, _, hv⟩, _⟩
  · have hsl : ∀ i, g.sl (fun v => p v + (g.netD p fl).run.A v) i = g.sl p i + (g.netD p fl).run.A (g.ed i).t.toNat - (g.netD p fl).run.A (g.ed i).f.toNat := fun i => by unfold Gr.sl; dsimp only; omega
    have h1 : ∀ i, i < g.es.length → (g.netD p fl).run.A (g.ed i).f.toNat + -g.sl p i ≤ (g.netD p fl).run.A (g.ed i).t.toNat := fun i hi => hm (g.fwdC (fun i => -g.sl p i) i) (mem_net.2 ⟨i, hi, .inl rfl⟩)
    refine ⟨fun v => p v + (g.netD p fl).run.A v, ⟨fun v hv => ?_, fun i hi => ?_⟩, fun i hi hf => ?_⟩
    · have a := hp.feas.pos v hv
      have b := (lrun_topB hN (netD_B g p fl) v).1
      show 0 ≤ p v + (g.netD p fl).run.A v
      omega
    · have := h1 i hi; rw [hsl]; omega
    · have a := h1 i hi
      have b : (g.netD p fl).run.A (g.ed i).t.toNat + -(-g.sl p i) ≤ (g.netD p fl).run.A (g.ed i).f.toNat := hm (g.bwdC (fun i => -g.sl p i) i) (mem_net.2 ⟨i, hi, .inr ⟨hf, rfl⟩⟩)
      rw [hsl]; omega
  · omega
theorem tight_bnd {g : Gr} (h : g.OK) (hs : g.short = false) {fl : List Int} (hf : Flow g fl) {r : Nat → Int} (hr : Feas g r) (ht : ∀ i, i < g.es.length → 0 < fl.getD i 0 → g.sl r i = 0) : g.bnd fl g.es.length = g.mem (fn g.best) := by
  obtain ⟨_, _, hb⟩ := best_mk h hs
  have hz : sm g.es.length (fun i => fn fl i * g.sl r i) = 0 := by
    rw [show (0 : Int) = sm g.es.length (fun _ => 0) from sm_zero.symm]
    refine sm_eq fun i hi => ?_
    have hpz := hf.pos i hi
    by_cases e : 0 < fl.getD i 0
    · rw [ht i hi e]; simp
    · have e1 : fn fl i = 0 := by show fl.getD i 0 = 0; have hpz : 0 ≤ fl.getD i 0 := hpz; omega
      rw [e1]; simp
  have h1 := mem_same hf.same r
  have h2 := hb.min r hr
  have h3 := bnd_le hf.same hf.pos hb.feas
  omega
theorem quiet_bnd {g : Gr} (h : g.OK) (hs : g.short = false) {p : Nat → Int} (hp : Low40 g p) {fl : List Int} (hf : Flow g fl) (hq : (g.netD p fl).run.node < 0) : g.bnd fl g.es.length = g.mem (fn g.best) := by
  obtain ⟨r, hr, ht⟩ := quiet_tight h hp hq
  exact tight_bnd h hs hf hr ht
inductive Wz (g : Gr) (fl : List Int) (v : Nat) : Nat → Int → Nat → Prop
  | base : Wz g fl v v 0 0
  | step {x : Nat} {s : Int} {k i : Nat} (h : Wz g fl v x s k) (hi : i < g.es.length) (hf : 0 < fl.getD i 0) (hx : (g.ed i).f.toNat = x) : Wz g fl v (g.ed i).t.toNat (s + g.byE i) (k + 1)
theorem tight_small {g : Gr} (h : g.OK) (hs : g.short = false) {fl : List Int} (hf : Flow g fl) {r : Nat → Int} (ht : ∀ i, i < g.es.length → 0 < fl.getD i 0 → g.sl r i = 0) {j : Nat} (hj : j < g.es.length) : fn fl j ≤ g.es.length * 64 := by
  obtain ⟨π, hπ, _⟩ := pot_of h hs
  by_cases hj0 : 0 < fl.getD j 0
  · have htd : ∀ i, i < g.es.length → 0 < fl.getD i 0 → g.df r i = g.byE i := fun i hi hf => by have := ht i hi hf; rw [sl_df] at this; omega
    have hw : ∀ {v x s k}, Wz g fl v x s k → r x - r v = s ∧ (g.nn + 1) * s + k ≤ π x - π v := by
      intro v x s k w
      induction w with
      | base => refine ⟨by omega, ?_⟩; simp
      | @step x s k i w hi hf hx ih =>
        have a := htd i hi hf
        have b := hπ i hi
        unfold Gr.df at a b
        rw [hx] at a b
        rw [Int.mul_add]
        refine ⟨by omega, by omega⟩
    have hno : ¬ ∃ s k, Wz g fl (g.ed j).t.toNat (g.ed j).f.toNat s k := by
      rintro ⟨s, k, w⟩
      obtain ⟨a, b⟩ := hw w
      have c := htd j hj hj0
      have d := hπ j hj
      unfold Gr.df at c d
      have e : s = -g.byE j := by omega
      rw [e, Int.mul_neg] at b
      omega
    let q : Nat → Int := fun x => open Classical in if (∃ s k, Wz g fl (g.ed j).t.toNat x s k) then 1 else 0
    have q01 : ∀ x, 0 ≤ q x ∧ q x ≤ 1 := fun x => by
      by_cases hx : ∃ s k, Wz g fl (g.ed j).t.toNat x s k
      · rw [show q x = 1 from if_pos hx]; omega
      · rw [show q x = 0 from if_neg hx]; omega
    have hdq : ∀ i, i < g.es.length → 0 ≤ fn fl i * g.df q i := fun i hi => by
      have hpz := hf.pos i hi
      by_cases e : 0 < fl.getD i 0
      · refine Int.mul_nonneg hpz ?_
        show 0 ≤ q _ - q _
        by_cases hx : ∃ s k, Wz g fl (g.ed j).t.toNat (g.ed i).f.toNat s k
        · obtain ⟨s, k, w⟩ := hx
          have h1 : q (g.ed i).t.toNat = 1 := if_pos ⟨_, _, .step w hi e rfl⟩
          have h2 := (q01 (g.ed i).f.toNat).2
          omega
        · have h1 : q (g.ed i).f.toNat = 0 := if_neg hx
          have h2 := (q01 (g.ed i).t.toNat).1
          omega
      · have e1 : fn fl i = 0 := by show fl.getD i 0 = 0; have hpz : 0 ≤ fl.getD i 0 := hpz; omega
        rw [e1]; simp
    have h1 := sm_one (m := g.es.length) (f := fun i => fn fl i * g.df q i) hdq hj
    have h2 : g.df q j = 1 := by
      show q _ - q _ = 1
      rw [show q (g.ed j).t.toNat = 1 from if_pos ⟨_, _, .base⟩, show q (g.ed j).f.toNat = 0 from if_neg hno]; omega
    have h1 : fn fl j * g.df q j ≤ _ := h1
    rw [h2, Int.mul_one, hf.same q] at h1
    have h3 : sm g.es.length (fun i => (g.ed i).w * g.df q i) ≤ sm g.es.length (fun _ => 64) := sm_le fun i hi => by
      have hw := (h.es _ (Gr.edge h hi).1).2.2.1
      have hw : 0 ≤ (g.ed i).w ∧ (g.ed i).w ≤ 64 := hw
      have h4 : g.df q i ≤ 1 := by have := q01 (g.ed i).t.toNat; have := q01 (g.ed i).f.toNat; show q _ - q _ ≤ 1; omega
      have h5 : (g.ed i).w * g.df q i ≤ (g.ed i).w * 1 := Int.mul_le_mul_of_nonneg_left h4 hw.1
      omega
    rw [sm_const] at h3
    omega
  · have := hf.pos j hj
    show fl.getD j 0 ≤ _
    omega
theorem quiet_small {g : Gr} (h : g.OK) (hs : g.short = false) {p : Nat → Int} (hp : Low40 g p) {fl : List Int} (hf : Flow g fl) (hq : (g.netD p fl).run.node < 0) {j : Nat} (hj : j < g.es.length) : fn fl j ≤ g.es.length * 64 := by
  obtain ⟨r, _, ht⟩ := quiet_tight h hp hq
  exact tight_small h hs hf ht hj

/-! What is left at each node. -/
def leftTo (g : Gr) (fl : List Int) : Nat → List Int
  | 0 => List.replicate g.lat.length 0
  | i + 1 =>
    let l := (leftTo g fl i).set (g.ed i).t.toNat ((leftTo g fl i).getD (g.ed i).t.toNat 0 + ((g.ed i).w - fn fl i))
    l.set (g.ed i).f.toNat (l.getD (g.ed i).f.toNat 0 + (fn fl i - (g.ed i).w))
theorem leftTo_len (g : Gr) (fl : List Int) (i : Nat) : (leftTo g fl i).length = g.lat.length := by
  induction i with
  | zero => simp [leftTo]
  | succ i ih => simp [leftTo, ih]
theorem leftTo_sum {g : Gr} (h : g.OK) (fl : List Int) (p : Nat → Int) : ∀ i, i ≤ g.es.length → sm g.lat.length (fun v => fn (leftTo g fl i) v * p v) = sm i (fun j => ((g.ed j).w - fn fl j) * g.df p j)
  | 0, _ => by
    show _ = 0
    rw [show (0 : Int) = sm g.lat.length (fun _ => 0) from sm_zero.symm]
    refine sm_eq fun v hv => ?_
    have : fn (leftTo g fl 0) v = 0 := by show (List.replicate g.lat.length 0).getD v 0 = 0; rw [getD_lt _ _ (by simpa using hv)]; simp
    rw [this]; simp
  | i + 1, hi => by
    have ih := leftTo_sum h fl p i (by omega)
    obtain ⟨_, hf, ht, _, _⟩ := Gr.edge h (j := i) (by omega)
    have hf : (g.ed i).f.toNat < g.lat.length := hf
    have ht : (g.ed i).t.toNat < g.lat.length := ht
    have hl := leftTo_len g fl i
    show sm g.lat.length (fun v => fn (((leftTo g fl i).set (g.ed i).t.toNat _).set (g.ed i).f.toNat _) v * p v) = sm i _ + _
    rw [sm_set (by simpa using hl) hf, sm_set hl ht, ih]
    show _ + ((leftTo g fl i).getD _ 0 + ((g.ed i).w - fn fl i) - (leftTo g fl i).getD _ 0) * _ + (((leftTo g fl i).set _ _).getD _ 0 + (fn fl i - (g.ed i).w) - ((leftTo g fl i).set _ _).getD _ 0) * _ = _ + ((g.ed i).w - fn fl i) * g.df p i
    rw [show ∀ a b : Int, a + b - a = b from fun a b => by omega, show ∀ a b : Int, a + b - a = b from fun a b => by omega]
    unfold Gr.df
    rw [Int.mul_sub, show fn fl i - (g.ed i).w = -((g.ed i).w - fn fl i) by omega, Int.neg_mul]
    omega
def flOk (x : Int) : Bool := decide (0 ≤ x ∧ x ≤ 1048576)
def Gr.flowB (g : Gr) (fl : List Int) : Bool := decide (fl.length = g.es.length) && (fl.all flOk && (leftTo g fl g.es.length).all fun x => decide (x = 0))
theorem mul_self_nonneg' (x : Int) : 0 ≤ x * x := by
  rcases Int.le_total 0 x with h | h
  · exact Int.mul_nonneg h h
  · have := Int.mul_nonneg (a := -x) (b := -x) (by omega) (by omega)
    rwa [Int.neg_mul_neg] at this
theorem left_same {g : Gr} (h : g.OK) {fl : List Int} : (∀ v, v < g.lat.length → fn (leftTo g fl g.es.length) v = 0) ↔ Same g fl := by
  have key : ∀ p, sm g.lat.length (fun v => fn (leftTo g fl g.es.length) v * p v) = sm g.es.length (fun i => (g.ed i).w * g.df p i) - sm g.es.length (fun i => fn fl i * g.df p i) := fun p => by
    rw [leftTo_sum h fl p _ (Nat.le_refl _)]
    have : sm g.es.length (fun i => (g.ed i).w * g.df p i) = sm g.es.length (fun j => ((g.ed j).w - fn fl j) * g.df p j) + sm g.es.length (fun i => fn fl i * g.df p i) := by
      rw [← sm_add]
      exact sm_eq fun i _ => by rw [← Int.add_mul]; congr 1; omega
    omega
  constructor
  · intro hz p
    have := key p
    rw [show sm g.lat.length (fun v => fn (leftTo g fl g.es.length) v * p v) = 0 from by
      rw [show (0 : Int) = sm g.lat.length (fun _ => 0) from sm_zero.symm]
      exact sm_eq fun v hv => by rw [hz v hv]; simp] at this
    omega
  · intro hsm v hv
    have h1 : sm g.lat.length (fun v => fn (leftTo g fl g.es.length) v * fn (leftTo g fl g.es.length) v) = _ := key fun x => fn (leftTo g fl g.es.length) x
    rw [hsm fun x => fn (leftTo g fl g.es.length) x] at h1
    have h2 := sm_one_neg (m := g.lat.length) (f := fun v => fn (leftTo g fl g.es.length) v * fn (leftTo g fl g.es.length) v) (fun v _ => mul_self_nonneg' _) (by omega) hv
    rcases Int.mul_eq_zero.1 h2 with e | e <;> exact e

end Go.Proofs.Ytcidkahhfdcddaa

/- Rounds as many as there are nodes, none left out; last arcs by their number. No program in sight. -/
namespace Go.Proofs.Ytcidkahhfdcddaa
set_option linter.unusedVariables false
set_option linter.unusedSimpArgs false

theorem lcycle_n {N : Net} (h : N.OK) {s : LP} {st : Nat → Nat} {v : Nat} (I : LInv N N.n N.as.length s st) (hv : v < N.n) (hst : st v = N.n) :
    (∀ k, LOn N s (s.back k v)) ∧ LCyc N s (s.back N.n v) := by
  have hset : ∀ v, v < N.n → 0 < st v → LOn N s v ∧ st v ≤ st (s.pr v) + 1 := fun v h1 h2 => let ⟨a, b, c, d⟩ := I.set v h1 h2; ⟨⟨h1, a, b, c⟩, d⟩
  have hway : ∀ k, k ≤ N.n → s.back k v < N.n ∧ N.n ≤ st (s.back k v) + k := by
    intro k
    induction k with
    | zero => intro _; exact ⟨hv, by show _ ≤ st v + 0; omega⟩
    | succ k ih =>
      intro hk
      obtain ⟨h1, h2⟩ := ih (by omega)
      obtain ⟨o, h3⟩ := hset _ h1 (by omega)
      exact ⟨o.pr_lt h, by show _ ≤ st (s.pr (s.back k v)) + (k + 1); omega⟩
  obtain ⟨a, b, hab, hb, he⟩ := repeats (n := N.n) (x := fun k => s.back k v) (fun i hi => (hway i hi).1)
  have hper : ∀ k, a ≤ k → s.back (k + (b - a)) v = s.back k v := by
    intro k hk
    obtain ⟨c, rfl⟩ : ∃ c, k = a + c := ⟨k - a, by omega⟩
    have e : a + c + (b - a) = b + c := by omega
    rw [e, lback_add, lback_add, show s.back b v = s.back a v from he.symm]
  have hall : ∀ k, ∃ k', k' < N.n ∧ s.back k v = s.back k' v := by
    intro k
    induction k using Nat.strongRecOn with
    | ind k ih =>
      by_cases hk : k < b
      · exact ⟨k, by omega, rfl⟩
      · obtain ⟨k', h1, h2⟩ := ih (k - (b - a)) (by omega)
        refine ⟨k', h1, ?_⟩
        rw [← h2]
        have := hper (k - (b - a)) (by omega)
        rw [← this]
        congr 1
        omega
  have hst : ∀ k, 0 < st (s.back k v) := fun k => by
    obtain ⟨k', h1, h2⟩ := hall k
    rw [h2]
    have := (hway k' (by omega)).2
    omega
  have hlt : ∀ k, s.back k v < N.n := fun k => by
    obtain ⟨k', h1, h2⟩ := hall k
    rw [h2]
    exact (hway k' (by omega)).1
  have hw : ∀ k, LOn N s (s.back k v) := fun k => (hset _ (hlt k) (hst k)).1
  refine ⟨hw, fun k => by rw [← lback_add]; exact hw _, ⟨b - a, by omega, by omega, ?_⟩, ?_⟩
  · rw [← lback_add]
    exact hper _ (by omega)
  · obtain ⟨τ, c, _, h2⟩ := I.tau
    refine ⟨τ, fun k hk => ?_⟩
    rw [← lback_add] at hk ⊢
    rw [← lback_add] at hk ⊢
    exact h2 _ (hw _).lt (hst _) hk
theorem lstt_cases {N : Net} (h : N.OK) : ((N.stt N.n).node = -1 ∧ N.Meets (N.stt N.n).A ∧ ∀ v, 0 ≤ (N.stt N.n).A v) ∨ ∃ v : Nat, v < N.n ∧ (N.stt N.n).node = (v : Int) ∧ (∀ k, LOn N (N.stt N.n) ((N.stt N.n).back k v)) ∧ LCyc N (N.stt N.n) ((N.stt N.n).back N.n v) := by
  obtain ⟨m, hm⟩ : ∃ m, N.n = m := ⟨_, rfl⟩
  cases m with
  | zero =>
    refine .inl ?_
    rw [hm]
    refine ⟨rfl, fun a ha => ?_, fun v => ?_⟩
    · have := h.as a ha; omega
    · have : N.start.A v = 0 := by simp [Net.start, LP.A, List.getD_eq_getElem?_getD, List.getElem?_replicate]; split <;> rfl
      show 0 ≤ N.start.A v
      omega
  | succ m =>
    obtain ⟨st, I⟩ := linv_stt h m
    obtain ⟨st', I'⟩ := linv_passTo h (by omega) I N.as.length (Nat.le_refl _)
    have I' : LInv N N.n N.as.length (N.stt N.n) st' := by rw [hm]; exact I'
    rcases I'.last with ⟨hl, hst⟩ | ⟨v, hv, hl, hst⟩
    · refine .inl ⟨hl, fun e he => ?_, I'.low⟩
      obtain ⟨j, hj, rfl⟩ := List.mem_iff_getElem.1 he
      have := (I'.rel j hj).1 hj
      rw [getD_lt _ _ hj] at this
      rcases this with h1 | h1
      · exact h1
      · have := hst (N.as[j]).f.toNat; omega
    · obtain ⟨a, b⟩ := lcycle_n h I' hv hst
      exact .inr ⟨v, hv, hl, a, b⟩
/-- Positions that meet the residual arcs make the flow tight. -/
theorem meets_tight {g : Gr} {p : Nat → Int} (hp : Low40 g p) {fl : List Int} {A : Nat → Int} (hm : (g.netD p fl).Meets A) (h0 : ∀ v, 0 ≤ A v) : ∃ r, Feas g r ∧ ∀ i, i < g.es.length → 0 < fl.getD i 0 → g.sl r i = 0 := by
  have hsl : ∀ i, g.sl (fun v => p v + A v) i = g.sl p i + A (g.ed i).t.toNat - A (g.ed i).f.toNat := fun i => by unfold Gr.sl; dsimp only; omega
  have h1 : ∀ i, i < g.es.length → A (g.ed i).f.toNat + -g.sl p i ≤ A (g.ed i).t.toNat := fun i hi => hm (g.fwdC (fun i => -g.sl p i) i) (mem_net.2 ⟨i, hi, .inl rfl⟩)
  refine ⟨fun v => p v + A v, ⟨fun v hv => ?_, fun i hi => ?_⟩, fun i hi hf => ?_⟩
  · have a := hp.feas.pos v hv
    have b := h0 v
    show 0 ≤ p v + A v
    omega
  · have := h1 i hi; rw [hsl]; omega
  · have a := h1 i hi
    have b : A (g.ed i).t.toNat + -(-g.sl p i) ≤ A (g.ed i).f.toNat := hm (g.bwdC (fun i => -g.sl p i) i) (mem_net.2 ⟨i, hi, .inr ⟨hf, rfl⟩⟩)
    rw [hsl]; omega

/-! Last arcs by their number in the list, plus one; none is 0. -/
structure IX where
  at_ : List Int
  ix : List Int
  node : Int
def IX.lp (N : Net) (x : IX) : LP := ⟨x.at_, x.ix.map fun b => if b = 0 then default else N.as.getD (b - 1).toNat default, x.node⟩
def xrelax (N : Net) (x : IX) (i : Nat) : IX :=
  let a := N.as.getD i default
  if x.at_.getD a.t.toNat 0 < x.at_.getD a.f.toNat 0 + a.by_ then ⟨x.at_.set a.t.toNat (x.at_.getD a.f.toNat 0 + a.by_), x.ix.set a.t.toNat ((i : Int) + 1), a.t⟩ else x
def xpassTo (N : Net) (x : IX) : Nat → IX
  | 0 => { x with node := -1 }
  | i + 1 => xrelax N (xpassTo N x i) i
def xstt (N : Net) : Nat → IX
  | 0 => ⟨List.replicate N.n 0, List.replicate N.n 0, -1⟩
  | k + 1 => xpassTo N (xstt N k) N.as.length
theorem xrelax_lp (N : Net) (x : IX) (i : Nat) : (xrelax N x i).lp N = lrelax (x.lp N) (N.as.getD i default) := by
  unfold xrelax lrelax
  show (if _ then _ else _ : IX).lp N = if x.at_.getD _ 0 < x.at_.getD _ 0 + _ then _ else _
  split
  · show (⟨_, _, _⟩ : LP) = ⟨_, _, _⟩
    congr 1
    rw [List.map_set, if_neg (by omega), show ((i : Int) + 1 - 1).toNat = i by omega]
    rfl
  · rfl
theorem xpassTo_lp (N : Net) (x : IX) : ∀ i, i ≤ N.as.length → (xpassTo N x i).lp N = N.passTo (x.lp N) i
  | 0, _ => by unfold Net.passTo; rfl
  | i + 1, hi => by
    rw [N.passTo_succ _ (by omega), ← xpassTo_lp N x i (by omega)]
    exact xrelax_lp N _ i
theorem xstt_lp (N : Net) : ∀ k, (xstt N k).lp N = N.stt k
  | 0 => by
    show (⟨List.replicate N.n 0, (List.replicate N.n (0 : Int)).map (fun b => if b = 0 then default else N.as.getD (b - 1).toNat default), -1⟩ : LP) = ⟨List.replicate N.n 0, List.replicate N.n default, -1⟩
    rw [List.map_replicate, if_pos rfl]
  | k + 1 => by
    show (xpassTo N (xstt N k) N.as.length).lp N = N.pass (N.stt k)
    rw [xpassTo_lp N _ _ (Nat.le_refl _), xstt_lp N k]
    rfl

/-! The reference's flow: other rounds, other cycles, and yet a flow that proves as much. -/
def Net.cycN (N : Net) : List Arc := (N.stt N.n).gone ((N.stt N.n).back N.n (N.stt N.n).node.toNat) ((N.stt N.n).per N.n ((N.stt N.n).back N.n (N.stt N.n).node.toNat))
theorem ncyc_n {N : Net} (h : N.OK) (hq : ¬ (N.stt N.n).node < 0) : NCyc N N.cycN := by
  rcases lstt_cases h with ⟨h1, _⟩ | ⟨v, hv, hn, _, c⟩
  · omega
  · unfold Net.cycN
    rw [hn]
    exact ncyc_gone c
def Gr.mkR (g : Gr) (p : Nat → Int) : Nat → List Int → Option (List Int)
  | 0, _ => none
  | k + 1, fl => if ((g.netD p fl).stt g.lat.length).node < 0 then some fl else g.mkR p k (g.csend fl (g.netD p fl).cycN)
theorem mkR_some {g : Gr} (h : g.OK) (hs : g.short = false) {p : Nat → Int} (hp : Low40 g p) : ∀ (k : Nat) (fl : List Int), Flow g fl → sm g.es.length (fun i => (g.ed i).w * g.df (fn g.low) i) - sm g.es.length (fun i => fn fl i * g.byE i) < (k : Int) → ∃ r, g.mkR p k fl = some r
  | 0, fl, hf, hk => by
    have hl := low_spec h hs
    have h1 : 0 ≤ sm g.es.length (fun i => fn fl i * g.sl (fn g.low) i) := sm_nonneg fun i hi => Int.mul_nonneg (hf.pos i hi) (hl.feas.sl i hi)
    have h2 : sm g.es.length (fun i => fn fl i * g.df (fn g.low) i) = sm g.es.length (fun i => fn fl i * g.sl (fn g.low) i) + sm g.es.length (fun i => fn fl i * g.byE i) := by
      rw [← sm_add]
      exact sm_eq fun i _ => by rw [sl_df, Int.mul_sub]; omega
    rw [← hf.same] at hk
    omega
  | k + 1, fl, hf, hk => by
    show ∃ r, (if ((g.netD p fl).stt g.lat.length).node < 0 then some fl else g.mkR p k (g.csend fl (g.netD p fl).cycN)) = some r
    split
    · exact ⟨_, rfl⟩
    · rename_i hq
      obtain ⟨_, _, hf', hup⟩ := csend_step h hs hf (ncyc_n (netD_ok h hp fl) hq)
      exact mkR_some h hs hp k _ hf' (by omega)
theorem mkR_end {g : Gr} (h : g.OK) (hs : g.short = false) {p : Nat → Int} (hp : Low40 g p) : ∀ {k : Nat} {fl r : List Int}, Flow g fl → g.mkR p k fl = some r → Flow g r ∧ ((g.netD p r).stt g.lat.length).node < 0
  | 0, _, _, _, e => by cases e
  | k + 1, fl, r, hf, e => by
    have e : (if ((g.netD p fl).stt g.lat.length).node < 0 then some fl else g.mkR p k (g.csend fl (g.netD p fl).cycN)) = some r := e
    split at e
    · rename_i hq; injection e with e; subst e; exact ⟨hf, hq⟩
    · rename_i hq; exact mkR_end h hs hp (csend_step h hs hf (ncyc_n (netD_ok h hp fl) hq)).2.2.1 e
theorem mkR_mk {g : Gr} (h : g.OK) (hs : g.short = false) {p : Nat → Int} (hp : Low40 g p) : ∃ k r, g.mkR p k g.ws = some r ∧ Flow g r ∧ g.bnd r g.es.length = g.mem (fn g.best) ∧ ∀ j, j < g.es.length → fn r j ≤ g.es.length * 64 := by
  obtain ⟨r, hr⟩ := mkR_some h hs hp ((sm g.es.length (fun i => (g.ed i).w * g.df (fn g.low) i) - sm g.es.length (fun i => fn g.ws i * g.byE i)).toNat + 1) g.ws (flow_ws h) (by omega)
  obtain ⟨h1, h2⟩ := mkR_end h hs hp (flow_ws h) hr
  refine ⟨_, r, hr, h1, ?_⟩
  rcases lstt_cases (netD_ok h hp r) with ⟨_, hm, h0⟩ | ⟨v, _, hn, _, _⟩
  · obtain ⟨q, hq, ht⟩ := meets_tight hp hm h0
    exact ⟨tight_bnd h hs h1 hq ht, fun j hj => tight_small h hs h1 ht hj⟩
  · have hn : ((g.netD p r).stt g.lat.length).node = (v : Int) := hn
    omega
/-- The numbers of the arcs of the cycle. -/
def IX.nums (N : Net) (x : IX) (v k : Nat) : List Int := (List.range k).map fun i => x.ix.getD ((x.lp N).back i v) 0 - 1
theorem nums_len (N : Net) (x : IX) (v k : Nat) : (x.nums N v k).length = k := by simp [IX.nums]
theorem nums_succ (N : Net) (x : IX) (v k : Nat) : x.nums N v (k + 1) = x.nums N v k ++ [x.ix.getD ((x.lp N).back k v) 0 - 1] := by simp [IX.nums, List.range_succ]

/-! Where the numbers stand. -/
structure IXok (N : Net) (x : IX) : Prop where
  len : x.ix.length = N.n
  rg : ∀ v, 0 ≤ x.ix.getD v 0 ∧ x.ix.getD v 0 ≤ N.as.length
theorem xrelax_ok {N : Net} (h : N.OK) {x : IX} (hx : IXok N x) {i : Nat} (hi : i < N.as.length) : IXok N (xrelax N x i) := by
  unfold xrelax
  dsimp only
  split
  · refine ⟨by show (x.ix.set _ _).length = _; rw [List.length_set]; exact hx.len, fun v => ?_⟩
    have ht := (Net.arc h hi).2.2.1
    show 0 ≤ (x.ix.set _ _).getD v 0 ∧ (x.ix.set _ _).getD v 0 ≤ _
    rw [getD_set (by rw [hx.len]; exact ht)]
    split
    · omega
    · exact hx.rg v
  · exact hx
theorem xpassTo_ok {N : Net} (h : N.OK) {x : IX} (hx : IXok N x) : ∀ i, i ≤ N.as.length → IXok N (xpassTo N x i)
  | 0, _ => ⟨hx.len, hx.rg⟩
  | i + 1, hi => xrelax_ok h (xpassTo_ok h hx i (by omega)) (by omega)
theorem xstt_ok {N : Net} (h : N.OK) : ∀ k, IXok N (xstt N k)
  | 0 => ⟨by simp [xstt], fun v => by
    have : (List.replicate N.n (0 : Int)).getD v 0 = 0 := by simp only [List.getD_eq_getElem?_getD, List.getElem?_replicate]; split <;> rfl
    show 0 ≤ (List.replicate N.n (0 : Int)).getD v 0 ∧ (List.replicate N.n (0 : Int)).getD v 0 ≤ _
    rw [this]; omega⟩
  | k + 1 => xpassTo_ok h (xstt_ok h k) _ (Nat.le_refl _)
theorem ix_at {N : Net} {x : IX} (hx : IXok N x) (hs : ∀ a ∈ N.as, a.s ≠ 0) {y : Nat} (o : LOn N (x.lp N) y) : 1 ≤ x.ix.getD y 0 ∧ x.ix.getD y 0 ≤ N.as.length ∧ N.as.getD (x.ix.getD y 0 - 1).toNat default = (x.lp N).L y := by
  have hy : y < x.ix.length := by rw [hx.len]; exact o.lt
  have e : (x.lp N).L y = if x.ix.getD y 0 = 0 then default else N.as.getD (x.ix.getD y 0 - 1).toNat default := by
    show (x.ix.map _).getD y default = _
    rw [getD_lt _ _ (by simpa using hy), List.getElem_map, getD_lt _ _ hy]
  have hr := hx.rg y
  have hm := o.mem
  by_cases h0 : x.ix.getD y 0 = 0
  · rw [e, if_pos h0] at hm
    exact absurd rfl (hs _ hm)
  · rw [if_neg h0] at e
    exact ⟨by omega, hr.2, e.symm⟩
def Net.cycR (N : Net) : List Int := if (N.stt N.n).node < 0 then [] else (xstt N N.n).nums N ((N.stt N.n).back N.n (N.stt N.n).node.toNat) ((N.stt N.n).per N.n ((N.stt N.n).back N.n (N.stt N.n).node.toNat))
/-- The numbers name the arcs of the cycle. -/
theorem cycR_at {N : Net} (h : N.OK) (hs : ∀ a ∈ N.as, a.s ≠ 0) (hq : ¬ (N.stt N.n).node < 0) : N.cycR.length = N.cycN.length ∧ ∀ i, i < N.cycN.length → 0 ≤ N.cycR.getD i 0 ∧ (N.cycR.getD i 0).toNat < N.as.length ∧ N.as.getD (N.cycR.getD i 0).toNat default = N.cycN.getD i default := by
  rcases lstt_cases h with ⟨h1, _⟩ | ⟨v, hv, hn, hw, c⟩
  · omega
  · unfold Net.cycR Net.cycN
    rw [if_neg hq, hn]
    rw [show ((v : Nat) : Int).toNat = v from rfl]
    obtain ⟨x, hx⟩ : ∃ x, (N.stt N.n).back N.n v = x := ⟨_, rfl⟩
    rw [hx] at c ⊢
    obtain ⟨p, hp⟩ : ∃ p, (N.stt N.n).per N.n x = p := ⟨_, rfl⟩
    rw [hp]
    have e := xstt_lp N N.n
    refine ⟨by simp [IX.nums], fun i hi => ?_⟩
    have hi : i < p := by simpa using hi
    have e1 : ((xstt N N.n).nums N x p).getD i 0 = (xstt N N.n).ix.getD ((N.stt N.n).back i x) 0 - 1 := by
      rw [getD_lt _ _ (by rw [nums_len]; exact hi)]
      simp [IX.nums, e]
    have e2 : ((N.stt N.n).gone x p).getD i default = (N.stt N.n).L ((N.stt N.n).back i x) := by
      rw [getD_lt _ _ (by simpa using hi)]; simp
    obtain ⟨a, b, d⟩ := ix_at (xstt_ok h N.n) hs (by rw [e]; exact c.way i)
    rw [e1, e2]
    rw [e] at d
    exact ⟨by omega, by omega, d⟩

theorem mkR_fin {g : Gr} (h : g.OK) (hs : g.short = false) {p : Nat → Int} (hp : Low40 g p) {k : Nat} {r : List Int} (hr : g.mkR p k g.ws = some r) : Flow g r ∧ g.bnd r g.es.length = g.mem (fn g.best) ∧ ∀ j, j < g.es.length → fn r j ≤ g.es.length * 64 := by
  obtain ⟨h1, h2⟩ := mkR_end h hs hp (flow_ws h) hr
  refine ⟨h1, ?_⟩
  rcases lstt_cases (netD_ok h hp r) with ⟨_, hm, h0⟩ | ⟨v, _, hn, _, _⟩
  · obtain ⟨q, hq, ht⟩ := meets_tight hp hm h0
    exact ⟨tight_bnd h hs h1 hq ht, fun j hj => tight_small h hs h1 ht hj⟩
  · have hn : ((g.netD p r).stt g.lat.length).node = (v : Int) := hn
    omega
noncomputable def Gr.certR (g : Gr) (p : Nat → Int) : List Int := open Classical in if h : ∃ a, ∃ k, g.mkR p k g.ws = some a then h.choose else []
theorem certR_mk {g : Gr} (h : g.OK) (hs : g.short = false) {p : Nat → Int} (hp : Low40 g p) : ∃ k, g.mkR p k g.ws = some (g.certR p) ∧ Flow g (g.certR p) ∧ g.bnd (g.certR p) g.es.length = g.mem (fn g.best) ∧ ∀ j, j < g.es.length → fn (g.certR p) j ≤ g.es.length * 64 := by
  have he : ∃ a, ∃ k, g.mkR p k g.ws = some a := by
    obtain ⟨k, r, hr, _⟩ := mkR_mk h hs hp
    exact ⟨r, k, hr⟩
  have e : g.certR p = he.choose := by unfold Gr.certR; rw [dif_pos he]
  obtain ⟨k, hk⟩ := he.choose_spec
  rw [e]
  exact ⟨k, hk, mkR_fin h hs hp hk⟩

end Go.Proofs.Ytcidkahhfdcddaa
