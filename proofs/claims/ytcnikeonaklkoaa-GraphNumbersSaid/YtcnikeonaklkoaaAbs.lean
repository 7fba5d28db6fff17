/- An abstract state for Go functions that compute on data: named slots and named blocks of memory; what such a state says of a frame and a world. No program in sight. -/
import Derived.CallsIn
import Derived.OrdersIn
import Derived.Below
namespace Go.Proofs.Ytcnikeonaklkoaa
open Go

/-- What is known of memory that never changes: block, place, cell. -/
abbrev Mem := Nat → Nat → Option Value

/-- Immutable data: a cell's value as it stands; a slice of elements of n cells each; a struct's or an array's cells. -/
inductive D where
  | v (x : Value)
  | rows (n len : Nat) (g : Nat → List D)
  | agg (l : List D)

inductive DenD (M : Mem) : D → Value → Prop
  | v (x : Value) : DenD M (.v x) x
  | agg (l : List D) (vs : List Value) (hl : l.length = vs.length) (h : ∀ (j : Nat) (x : D) (y : Value), l[j]? = some x → vs[j]? = some y → DenD M x y) : DenD M (.agg l) (.agg vs.toArray)
  | emp (n : Nat) (g : Nat → List D) (a : Option Addr) (cap : Nat) : DenD M (.rows n 0 g) (.slice a 0 cap)
  | rows (n len : Nat) (g : Nat → List D) (b o cap : Nat) (hc : len ≤ cap) (hl : ∀ i, i < len → (g i).length = n) (c : Nat → Nat → Value)
      (hm : ∀ i j, i < len → j < n → M b (o + (i * n + j)) = some (c i j))
      (h : ∀ i j x, i < len → (g i)[j]? = some x → DenD M x (c i j)) : DenD M (.rows n len g) (.slice (some ⟨b, o, none⟩) len cap)

def Mem.le (M M' : Mem) : Prop := ∀ b o v, M b o = some v → M' b o = some v
theorem Mem.le_refl (M : Mem) : M.le M := fun _ _ _ h => h
theorem Mem.le_trans {M M' M'' : Mem} (h : M.le M') (k : M'.le M'') : M.le M'' := fun b o v e => k b o v (h b o v e)

theorem DenD.mono {M M' : Mem} (hle : M.le M') {x : D} {v : Value} (h : DenD M x v) : DenD M' x v := by
  induction h with
  | v x => exact .v x
  | agg l vs hl _ ih => exact .agg l vs hl ih
  | emp n g a cap => exact .emp n g a cap
  | rows n len g b o cap hc hl c hm _ ih => exact .rows n len g b o cap hc hl c (fun i j hi hj => hle _ _ _ (hm i j hi hj)) ih

/-- Where a label's block lies; and the capacity of the slice that owns it (none: a nil slice, no block). -/
structure Vals where
  ρ : Nat → Nat
  κ : Nat → Option Nat

/-- Abstract values of slots. -/
inductive AV where
  | d (x : D)
  | loc (l j : Nat)
  | locr (l n i j : Nat)
  | rp (l : List D)
  | own (l len : Nat)
  | sl (l n lo len : Nat)
  | fn (f : FuncId) (cs : List AV)
  | agg (l : List AV)
  | tup (l : List AV)
  | gd (c : Bool) (x : AV)
  | yld (l : Nat)

inductive Den (V : Vals) (M : Mem) : AV → Value → Prop
  | d (x : D) (v : Value) (h : DenD M x v) : Den V M (.d x) v
  | loc (l j : Nat) : Den V M (.loc l j) (.pointer (some ⟨V.ρ l, j, none⟩))
  | locr (l n i j : Nat) : Den V M (.locr l n i j) (.pointer (some ⟨V.ρ l, i * n + j, none⟩))
  | rp (l : List D) (b o : Nat) (c : Nat → Value) (hm : ∀ j, j < l.length → M b (o + j) = some (c j)) (h : ∀ (j : Nat) (x : D), l[j]? = some x → DenD M x (c j)) :
      Den V M (.rp l) (.pointer (some ⟨b, o, none⟩))
  | own (l len cap : Nat) (hk : V.κ l = some cap) (hc : len ≤ cap) : Den V M (.own l len) (.slice (some ⟨V.ρ l, 0, none⟩) len cap)
  | ownNil (l : Nat) (hk : V.κ l = none) : Den V M (.own l 0) (.slice none 0 0)
  | sl (l n lo len cap : Nat) (hc : len ≤ cap) (hk : V.κ l = some (lo + cap)) : Den V M (.sl l n lo len) (.slice (some ⟨V.ρ l, lo * n, none⟩) len cap)
  | slEmp (l n lo : Nat) (a : Option Addr) (cap : Nat) : Den V M (.sl l n lo 0) (.slice a 0 cap)
  | fn (f : FuncId) (cs : List AV) (vs : List Value) (hl : cs.length = vs.length) (h : ∀ (j : Nat) (x : AV) (y : Value), cs[j]? = some x → vs[j]? = some y → Den V M x y) :
      Den V M (.fn f cs) (.func (.func f) #[] vs.toArray)
  | agg (l : List AV) (vs : List Value) (hl : l.length = vs.length) (h : ∀ (j : Nat) (x : AV) (y : Value), l[j]? = some x → vs[j]? = some y → Den V M x y) : Den V M (.agg l) (.agg vs.toArray)
  | tup (l : List AV) (vs : List Value) (hl : l.length = vs.length) (h : ∀ (j : Nat) (x : AV) (y : Value), l[j]? = some x → vs[j]? = some y → Den V M x y) : Den V M (.tup l) (.tuple vs.toArray)
  | gd (c : Bool) (x : AV) (v : Value) (h : c = true → Den V M x v) (hu : c = false → v = undef) : Den V M (.gd c x) v
  | yld (l : Nat) : Den V M (.yld l) (.func (.yield (V.ρ l)) #[] #[])

/-- The labels that a value names. -/
inductive Ment : AV → Nat → Prop
  | loc (l j : Nat) : Ment (.loc l j) l
  | locr (l n i j : Nat) : Ment (.locr l n i j) l
  | own (l len : Nat) : Ment (.own l len) l
  | sl (l n lo len : Nat) : Ment (.sl l n lo len) l
  | fn (f : FuncId) (cs : List AV) (x : AV) (l : Nat) (hx : x ∈ cs) (h : Ment x l) : Ment (.fn f cs) l
  | agg (cs : List AV) (x : AV) (l : Nat) (hx : x ∈ cs) (h : Ment x l) : Ment (.agg cs) l
  | tup (cs : List AV) (x : AV) (l : Nat) (hx : x ∈ cs) (h : Ment x l) : Ment (.tup cs) l
  | gd (c : Bool) (x : AV) (l : Nat) (h : Ment x l) : Ment (.gd c x) l
  | yld (l : Nat) : Ment (.yld l) l

theorem Den.mono {V V' : Vals} {M M' : Mem} (hle : M.le M') {x : AV} {v : Value} (h : Den V M x v) :
    (∀ l, Ment x l → V'.ρ l = V.ρ l ∧ V'.κ l = V.κ l) → Den V' M' x v := by
  induction h with
  | d x v h => exact fun _ => .d x v (h.mono hle)
  | loc l j => intro hv; rw [← (hv l (.loc l j)).1]; exact .loc l j
  | locr l n i j => intro hv; rw [← (hv l (.locr l n i j)).1]; exact .locr l n i j
  | rp l b o c hm h => exact fun _ => .rp l b o c (fun j hj => hle _ _ _ (hm j hj)) (fun j x hx => (h j x hx).mono hle)
  | own l len cap hk hc => intro hv; have := hv l (.own l len); rw [← this.1]; exact .own l len cap (this.2.trans hk) hc
  | ownNil l hk => intro hv; exact .ownNil l ((hv l (.own l 0)).2.trans hk)
  | sl l n lo len cap hc hk => intro hv; have := hv l (.sl l n lo len); rw [← this.1]; exact .sl l n lo len cap hc (this.2.trans hk)
  | slEmp l n lo a cap => exact fun _ => .slEmp l n lo a cap
  | fn f cs vs hl _ ih => intro hv; exact .fn f cs vs hl fun j x y hx hy => ih j x y hx hy fun l hm => hv l (.fn f cs x l (List.mem_of_getElem? hx) hm)
  | agg cs vs hl _ ih => intro hv; exact .agg cs vs hl fun j x y hx hy => ih j x y hx hy fun l hm => hv l (.agg cs x l (List.mem_of_getElem? hx) hm)
  | tup cs vs hl _ ih => intro hv; exact .tup cs vs hl fun j x y hx hy => ih j x y hx hy fun l hm => hv l (.tup cs x l (List.mem_of_getElem? hx) hm)
  | gd c x v _ hu ih => intro hv; exact .gd c x v (fun hc => ih hc fun l hm => hv l (.gd c x l hm)) hu
  | yld l => intro hv; rw [← (hv l (.yld l)).1]; exact .yld l

/-- A column of a block of rows. -/
inductive Col where
  | ints (k : IntKind) (xs : List Int)
  | bools (xs : List Bool)
  | ds (xs : List D)
def Col.len : Col → Nat
  | .ints _ xs => xs.length
  | .bools xs => xs.length
  | .ds xs => xs.length
def Col.at : Col → Nat → D
  | .ints k xs, i => .v (.int k (xs.getD i 0))
  | .bools xs, i => .v (.bool (xs.getD i false))
  | .ds xs, i => xs.getD i (.v .nilFunc)

/-- A range over a function: its record, but for the temporaries. -/
structure LH where
  st : LoopState
  pe : Option Code
  ps : Array Tmp
  assign : Code
  body : Code
  nt : Nat

/-- What a block holds: just these cells; just 'len' rows of n cells (an array); a row that a slice owns: at least 'len' rows of n cells. -/
inductive Blk where
  | cells (l : List AV)
  | data (l : List D)
  | cols (n len : Nat) (cs : List Col)
  | app (n len : Nat) (cs : List Col)
  | lp (h : LH) (ts : List (Nat × AV))
  | appv (l : List AV)

def rowsAt (M : Mem) (n len : Nat) (cs : List Col) (vs : Array Value) : Prop :=
  cs.length = n ∧ (∀ c ∈ cs, c.len = len) ∧ ∀ i j c, i < len → cs[j]? = some c → ∃ v, vs[i * n + j]? = some v ∧ DenD M (c.at i) v

def cellsAt (V : Vals) (M : Mem) (w : World) (l : Nat) (cs : List AV) : Prop :=
  V.κ l ≠ none ∧ ∃ vs t, w.heap[V.ρ l]? = some (.cells vs t (0, 0)) ∧ vs.size = cs.length ∧ ∀ (j : Nat) (x : AV) (y : Value), cs[j]? = some x → vs[j]? = some y → Den V M x y
def lpAt (V : Vals) (M : Mem) (w : World) (l : Nat) (h : LH) (ts : List (Nat × AV)) : Prop :=
  V.κ l ≠ none ∧ ∃ fn tmps d, w.heap[V.ρ l]? = some (.loop { state := h.st, pending := h.pe, fn := fn, tmps := tmps, params := h.ps, assign := h.assign, body := h.body, defers := d }) ∧
    tmps.size = h.nt ∧ ∀ p ∈ ts, ∃ v, tmps[p.1]? = some v ∧ Den V M p.2 v
/-- A slice's own block of one-cell elements that may be slices of ours. -/
def appvAt (V : Vals) (M : Mem) (w : World) (lab : Nat) (l : List AV) : Prop :=
  match V.κ lab with
  | none => l = []
  | some cap => l.length ≤ cap ∧ ∃ vs t, w.heap[V.ρ lab]? = some (.cells vs t (0, 0)) ∧ vs.size = cap ∧ ∀ (j : Nat) (x : AV), l[j]? = some x → ∃ v, vs[j]? = some v ∧ Den V M x v
def BlkAt (V : Vals) (M : Mem) (w : World) (l : Nat) : Blk → Prop
  | .cells cs => cellsAt V M w l cs
  | .data ds => cellsAt V M w l (ds.map .d)
  | .cols n len cs => V.κ l ≠ none ∧ ∃ vs t, w.heap[V.ρ l]? = some (.cells vs t (0, 0)) ∧ vs.size = len * n ∧ rowsAt M n len cs vs
  | .app n len cs => cs.length = n ∧ (∀ c ∈ cs, c.len = len) ∧
      match V.κ l with
      | none => len = 0
      | some cap => len ≤ cap ∧ ∃ vs t, w.heap[V.ρ l]? = some (.cells vs t (0, 0)) ∧ vs.size = cap * n ∧ rowsAt M n len cs vs
  | .lp h ts => lpAt V M w l h ts
  | .appv cs => appvAt V M w l cs

inductive BMent : Blk → Nat → Prop
  | cells (cs : List AV) (x : AV) (l : Nat) (hx : x ∈ cs) (h : Ment x l) : BMent (.cells cs) l
  | lp (h : LH) (ts : List (Nat × AV)) (p : Nat × AV) (l : Nat) (hx : p ∈ ts) (hm : Ment p.2 l) : BMent (.lp h ts) l
  | appv (cs : List AV) (x : AV) (l : Nat) (hx : x ∈ cs) (h : Ment x l) : BMent (.appv cs) l

theorem lpAt.turn {V V' : Vals} {M M' : Mem} {w w' : World} {l : Nat} {h : LH} {ts : List (Nat × AV)} (hh : lpAt V M w l h ts) (hM : M.le M') (hl : V'.ρ l = V.ρ l ∧ V'.κ l = V.κ l) (hm : ∀ l', BMent (.lp h ts) l' → V'.ρ l' = V.ρ l' ∧ V'.κ l' = V.κ l')
    (hw : V.κ l ≠ none → w'.heap[V.ρ l]? = w.heap[V.ρ l]?) : lpAt V' M' w' l h ts := by
  obtain ⟨hk, fn, tmps, d, h1, h2, h3⟩ := hh
  exact ⟨by rw [hl.2]; exact hk, fn, tmps, d, by rw [hl.1, hw hk]; exact h1, h2, fun p hp => let ⟨v, hv, hd⟩ := h3 p hp; ⟨v, hv, hd.mono hM fun l' hl' => hm l' (.lp h ts p l' hp hl')⟩⟩

theorem appvAt.turn {V V' : Vals} {M M' : Mem} {w w' : World} {l : Nat} {cs : List AV} (hh : appvAt V M w l cs) (hM : M.le M') (hl : V'.ρ l = V.ρ l ∧ V'.κ l = V.κ l) (hm : ∀ l', BMent (.appv cs) l' → V'.ρ l' = V.ρ l' ∧ V'.κ l' = V.κ l')
    (hw : V.κ l ≠ none → w'.heap[V.ρ l]? = w.heap[V.ρ l]?) : appvAt V' M' w' l cs := by
  unfold appvAt at *
  rw [hl.2, hl.1]
  cases hk : V.κ l with
  | none => rw [hk] at hh; exact hh
  | some cap =>
    rw [hk] at hh
    obtain ⟨h1, vs, t, h2, h3, h4⟩ := hh
    exact ⟨h1, vs, t, by rw [hw (by rw [hk]; simp)]; exact h2, h3, fun j x hx => let ⟨v, hv, hd⟩ := h4 j x hx; ⟨v, hv, hd.mono hM fun l' hl' => hm l' (.appv cs x l' (List.mem_of_getElem? hx) hl')⟩⟩

inductive Cont where
  | av (x : AV)
  | blk (B : Blk)

def CMent : Cont → Nat → Prop
  | .av x, l => Ment x l
  | .blk B, l => BMent B l

abbrev St := List (Nat × Cont)
abbrev sl (t : Nat) : Nat := 2 * t
abbrev bk (l : Nat) : Nat := 2 * l + 1

def St.get : St → Nat → Option Cont
  | [], _ => none
  | (m, c) :: r, n => bif Nat.beq m n then some c else St.get r n
def St.ins (n : Nat) (c : Cont) : St → St
  | [] => [(n, c)]
  | (m, d) :: r => bif Nat.beq m n then (n, c) :: r else (m, d) :: St.ins n c r
def St.del (n : Nat) : St → St
  | [] => []
  | (m, d) :: r => bif Nat.beq m n then St.del n r else (m, d) :: St.del n r
def St.put1 (S : St) (u : Nat × Option Cont) : St :=
  match u with
  | (n, some c) => St.ins n c S
  | (n, none) => St.del n S
def St.upd : St → List (Nat × Option Cont) → St
  | S, [] => S
  | S, u :: r => (S.put1 u).upd r

theorem nbeq (m n : Nat) : Nat.beq m n = decide (m = n) := by
  cases h : Nat.beq m n with
  | true => exact (decide_eq_true (Nat.eq_of_beq_eq_true h)).symm
  | false => exact (decide_eq_false (Nat.ne_of_beq_eq_false h)).symm

theorem St.get_ins (S : St) (n : Nat) (c : Cont) (m : Nat) : (St.ins n c S).get m = if n = m then some c else S.get m := by
  induction S with
  | nil => by_cases h : n = m <;> simp [St.ins, St.get, nbeq, h]
  | cons x r ih =>
    obtain ⟨k, d⟩ := x
    by_cases hk : k = n
    · subst hk
      by_cases h : k = m <;> simp [St.ins, St.get, nbeq, h]
    · by_cases h : k = m
      · subst h
        simp [St.ins, St.get, nbeq, hk, Ne.symm hk]
      · simp [St.ins, St.get, nbeq, hk, h, ih]
theorem St.get_del (S : St) (n : Nat) (m : Nat) : (St.del n S).get m = if n = m then none else S.get m := by
  induction S with
  | nil => simp [St.del, St.get]
  | cons x r ih =>
    obtain ⟨k, d⟩ := x
    by_cases hk : k = n
    · subst hk
      by_cases h : k = m
      · subst h; simpa [St.del, St.get, nbeq] using ih
      · simp [St.del, St.get, nbeq, h, ih]
    · by_cases h : k = m
      · subst h
        simp [St.del, St.get, nbeq, hk, Ne.symm hk]
      · simp [St.del, St.get, nbeq, hk, h, ih]
theorem St.get_put1 (S : St) (u : Nat × Option Cont) (m : Nat) : (S.put1 u).get m = if u.1 = m then u.2 else S.get m := by
  obtain ⟨n, c⟩ := u
  cases c with
  | some c => exact St.get_ins S n c m
  | none => exact St.get_del S n m

structure Env where
  w0 : World
  passed : List Nat
  M0 : Mem
  V0 : Vals
  keep : List Nat
  nt : Nat
  dfs : List Deferred := []
abbrev Env.of (w0 : World) (passed : List Nat) (M0 : Mem) (V0 : Vals) (keep : List Nat) (nt : Nat) : Env := { w0 := w0, passed := passed, M0 := M0, V0 := V0, keep := keep, nt := nt }

structure FrameOK (E : Env) (w : World) : Prop where
  os : w.os = E.w0.os
  tape : w.tape = E.w0.tape
  output : w.output = E.w0.output
  size : E.w0.heap.size ≤ w.heap.size
  block : ∀ b, b < E.w0.heap.size → b ∉ E.passed → w.heap[b]? = E.w0.heap[b]?

def HasB (V : Vals) (S : St) (l : Nat) : Prop := (∃ B, S.get (bk l) = some (.blk B)) ∧ V.κ l ≠ none

structure RepW (E : Env) (S : St) (V : Vals) (M : Mem) (w : World) : Prop where
  blks : ∀ l B, S.get (bk l) = some (.blk B) → BlkAt V M w l B
  inj : ∀ l l', HasB V S l → HasB V S l' → l ≠ l' → V.ρ l ≠ V.ρ l'
  sep : ∀ l, HasB V S l → ∀ o, M (V.ρ l) o = none
  fresh : ∀ l, HasB V S l → E.w0.heap.size ≤ V.ρ l ∨ V.ρ l ∈ E.passed
  bd : ∀ l, HasB V S l → V.ρ l < w.heap.size
  mem : ∀ b o v, M b o = some v → w.cell? ⟨b, o, none⟩ = some v
  mle : E.M0.le M
  mnew : ∀ b o, M b o ≠ none → E.M0 b o ≠ none ∨ E.w0.heap.size ≤ b ∨ b ∈ E.passed
  keep : ∀ l ∈ E.keep, V.ρ l = E.V0.ρ l ∧ V.κ l = E.V0.κ l
  frame : FrameOK E w

structure RepA (E : Env) (S : St) (V : Vals) (M : Mem) (a : Act) : Prop where
  slots : ∀ t x, S.get (sl t) = some (.av x) → ∃ v, a.tmps[t]? = some v ∧ Den V M x v
  size : a.tmps.size = E.nt
  defers : a.defers = E.dfs

def Rep (E : Env) (S : St) (a : Act) (w : World) : Prop := ∃ V M, RepA E S V M a ∧ RepW E S V M w

/-- Only what 'get' gives counts; and less may be known. -/
def St.le (S' S : St) : Prop := ∀ n c, S'.get n = some c → S.get n = some c
theorem St.le_refl (S : St) : S.le S := fun _ _ h => h
theorem St.le_trans {A B C : St} (h : A.le B) (k : B.le C) : A.le C := fun n c e => k n c (h n c e)

theorem RepA.weaken {E : Env} {S S' : St} {V : Vals} {M : Mem} {a : Act} (h : RepA E S V M a) (hle : S'.le S) : RepA E S' V M a :=
  ⟨fun t x e => h.slots t x (hle _ _ e), h.size, h.defers⟩
theorem HasB.weaken {V : Vals} {S S' : St} (hle : S'.le S) {l : Nat} (h : HasB V S' l) : HasB V S l :=
  ⟨let ⟨B, e⟩ := h.1; ⟨B, hle _ _ e⟩, h.2⟩
theorem RepW.weaken {E : Env} {S S' : St} {V : Vals} {M : Mem} {w : World} (h : RepW E S V M w) (hle : S'.le S) : RepW E S' V M w :=
  { blks := fun l B e => h.blks l B (hle _ _ e)
    inj := fun l l' a b => h.inj l l' (a.weaken hle) (b.weaken hle)
    sep := fun l a => h.sep l (a.weaken hle)
    fresh := fun l a => h.fresh l (a.weaken hle)
    bd := fun l a => h.bd l (a.weaken hle)
    mem := h.mem, mle := h.mle, mnew := h.mnew, keep := h.keep, frame := h.frame }
theorem Rep.weaken {E : Env} {S S' : St} {a : Act} {w : World} (h : Rep E S a w) (hle : S'.le S) : Rep E S' a w :=
  let ⟨V, M, ha, hw⟩ := h; ⟨V, M, ha.weaken hle, hw.weaken hle⟩

/-- A world that differs from w by draws alone. -/
theorem RepW.drawn {E : Env} {S : St} {V : Vals} {M : Mem} {w : World} (h : RepW E S V M w) (k : Nat) : RepW E S V M { w with drawn := k } :=
  { blks := fun l B e => by
      have := h.blks l B e
      cases B <;> exact this
    inj := h.inj, sep := h.sep, fresh := h.fresh, bd := h.bd, mem := h.mem, mle := h.mle, mnew := h.mnew, keep := h.keep
    frame := ⟨h.frame.os, h.frame.tape, h.frame.output, h.frame.size, h.frame.block⟩ }
theorem Rep.drawn {E : Env} {S : St} {a : Act} {w : World} (h : Rep E S a w) (k : Nat) : Rep E S a { w with drawn := k } :=
  let ⟨V, M, ha, hw⟩ := h; ⟨V, M, ha, hw.drawn k⟩

end Go.Proofs.Ytcnikeonaklkoaa
