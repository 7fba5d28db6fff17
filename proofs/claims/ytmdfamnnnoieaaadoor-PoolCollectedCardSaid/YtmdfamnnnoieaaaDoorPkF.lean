import Derived.CallsIn
import Derived.OrdersIn
import Derived.Below
import Derived.Deep.LoopGhost
import Derived.WalkKit
import Derived.Deep.AppendSrc
/- The package-level variables as the program's text lays them: block, cells. -/
namespace Go.Proofs.YtmdfamnnnoieaaaDoor
open Go

def globs : List (Nat × List Value) := [(0, [.int .u32 1779033703, .int .u32 3144134277, .int .u32 1013904242, .int .u32 2773480762, .int .u32 1359893119, .int .u32 2600822924, .int .u32 528734635, .int .u32 1541459225]),
  (1, [.int .u32 1116352408, .int .u32 1899447441, .int .u32 3049323471, .int .u32 3921009573, .int .u32 961987163, .int .u32 1508970993, .int .u32 2453635748, .int .u32 2870763221, .int .u32 3624381080, .int .u32 310598401, .int .u32 607225278, .int .u32 1426881987, .int .u32 1925078388, .int .u32 2162078206, .int .u32 2614888103, .int .u32 3248222580, .int .u32 3835390401, .int .u32 4022224774, .int .u32 264347078, .int .u32 604807628, .int .u32 770255983, .int .u32 1249150122, .int .u32 1555081692, .int .u32 1996064986, .int .u32 2554220882, .int .u32 2821834349, .int .u32 2952996808, .int .u32 3210313671, .int .u32 3336571891, .int .u32 3584528711, .int .u32 113926993, .int .u32 338241895, .int .u32 666307205, .int .u32 773529912, .int .u32 1294757372, .int .u32 1396182291, .int .u32 1695183700, .int .u32 1986661051, .int .u32 2177026350, .int .u32 2456956037, .int .u32 2730485921, .int .u32 2820302411, .int .u32 3259730800, .int .u32 3345764771, .int .u32 3516065817, .int .u32 3600352804, .int .u32 4094571909, .int .u32 275423344, .int .u32 430227734, .int .u32 506948616, .int .u32 659060556, .int .u32 883997877, .int .u32 958139571, .int .u32 1322822218, .int .u32 1537002063, .int .u32 1747873779, .int .u32 1955562222, .int .u32 2024104815, .int .u32 2227730452, .int .u32 2361852424, .int .u32 2428436474, .int .u32 2756734187, .int .u32 3204031479, .int .u32 3329325298])]

end Go.Proofs.YtmdfamnnnoieaaaDoor

/- An abstract state for Go functions that compute on data: named slots and named blocks of memory; what such a state says of a frame and a world. No program in sight. -/
namespace Go.Proofs.YtmdfamnnnoieaaaDoor
open Go

/-- What is known of memory that never changes: block, place, cell. -/
abbrev Mem := Nat → Nat → Option Value

/-- Immutable data: a cell's value as it stands; a slice of elements of n cells each; a struct's or an array's cells. -/
inductive D where
  | v (x : Value)
  | rows (n len : Nat) (g : Nat → List D)
  | agg (l : List D)

inductive DenD (M : Mem) : D → Value → Prop
  | v (x : Value) : DenD M (.v x) x
  | agg (l : List D) (vs : List Value) (hl : l.length = vs.length) (h : ∀ (j : Nat) (x : D) (y : Value), l[j]? = some x → vs[j]? = some y → DenD M x y) : DenD M (.agg l) (.agg vs.toArray)
  | emp (n : Nat) (g : Nat → List D) (a : Option Addr) (cap : Nat) : DenD M (.rows n 0 g) (.slice a 0 cap)
  | rows (n len : Nat) (g : Nat → List D) (b o cap : Nat) (hc : len ≤ cap) (hl : ∀ i, i < len → (g i).length = n) (c : Nat → Nat → Value)
      (hm : ∀ i j, i < len → j < n → M b (o + (i * n + j)) = some (c i j))
      (h : ∀ i j x, i < len → (g i)[j]? = some x → DenD M x (c i j)) : DenD M (.rows n len g) (.slice (some ⟨b, o, none⟩) len cap)

def Mem.le (M M' : Mem) : Prop := ∀ b o v, M b o = some v → M' b o = some v
theorem Mem.le_refl (M : Mem) : M.le M := fun _ _ _ h => h
theorem Mem.le_trans {M M' M'' : Mem} (h : M.le M') (k : M'.le M'') : M.le M'' := fun b o v e => k b o v (h b o v e)

theorem DenD.mono {M M' : Mem} (hle : M.le M') {x : D} {v : Value} (h : DenD M x v) : DenD M' x v := by
  induction h with
  | v x => exact .v x
  | agg l vs hl _ ih => exact .agg l vs hl ih
  | emp n g a cap => exact .emp n g a cap
  | rows n len g b o cap hc hl c hm _ ih => exact .rows n len g b o cap hc hl c (fun i j hi hj => hle _ _ _ (hm i j hi hj)) ih

/-- Where a label's block lies; and the capacity of the slice that owns it (none: a nil slice, no block). -/
structure Vals where
  ρ : Nat → Nat
  κ : Nat → Option Nat

/-- Abstract values of slots. -/
inductive AV where
  | d (x : D)
  | loc (l j : Nat)
  | locr (l n i j : Nat)
  | rp (l : List D)
  | own (l len : Nat)
  | sl (l n lo len : Nat)
  | fn (f : FuncId) (cs : List AV)
  | agg (l : List AV)
  | tup (l : List AV)
  | gd (c : Bool) (x : AV)
  | yld (l : Nat)
  | sa (l n lo len cap : Nat)
  | bd (f : FuncId) (cs : List AV)
  | mp (l : Nat)

inductive Den (V : Vals) (M : Mem) : AV → Value → Prop
  | d (x : D) (v : Value) (h : DenD M x v) : Den V M (.d x) v
  | loc (l j : Nat) : Den V M (.loc l j) (.pointer (some ⟨V.ρ l, j, none⟩))
  | locr (l n i j : Nat) : Den V M (.locr l n i j) (.pointer (some ⟨V.ρ l, i * n + j, none⟩))
  | rp (l : List D) (b o : Nat) (c : Nat → Value) (hm : ∀ j, j < l.length → M b (o + j) = some (c j)) (h : ∀ (j : Nat) (x : D), l[j]? = some x → DenD M x (c j)) :
      Den V M (.rp l) (.pointer (some ⟨b, o, none⟩))
  | own (l len cap : Nat) (hk : V.κ l = some cap) (hc : len ≤ cap) : Den V M (.own l len) (.slice (some ⟨V.ρ l, 0, none⟩) len cap)
  | ownNil (l : Nat) (hk : V.κ l = none) : Den V M (.own l 0) (.slice none 0 0)
  | sl (l n lo len cap : Nat) (hc : len ≤ cap) (hk : V.κ l = some (lo + cap)) : Den V M (.sl l n lo len) (.slice (some ⟨V.ρ l, lo * n, none⟩) len cap)
  | slEmp (l n lo : Nat) (a : Option Addr) (cap : Nat) : Den V M (.sl l n lo 0) (.slice a 0 cap)
  | fn (f : FuncId) (cs : List AV) (vs : List Value) (hl : cs.length = vs.length) (h : ∀ (j : Nat) (x : AV) (y : Value), cs[j]? = some x → vs[j]? = some y → Den V M x y) :
      Den V M (.fn f cs) (.func (.func f) #[] vs.toArray)
  | agg (l : List AV) (vs : List Value) (hl : l.length = vs.length) (h : ∀ (j : Nat) (x : AV) (y : Value), l[j]? = some x → vs[j]? = some y → Den V M x y) : Den V M (.agg l) (.agg vs.toArray)
  | tup (l : List AV) (vs : List Value) (hl : l.length = vs.length) (h : ∀ (j : Nat) (x : AV) (y : Value), l[j]? = some x → vs[j]? = some y → Den V M x y) : Den V M (.tup l) (.tuple vs.toArray)
  | gd (c : Bool) (x : AV) (v : Value) (h : c = true → Den V M x v) (hu : c = false → v = undef) : Den V M (.gd c x) v
  | yld (l : Nat) : Den V M (.yld l) (.func (.yield (V.ρ l)) #[] #[])
  | sa (l n lo len cap : Nat) (hc : len ≤ cap) : Den V M (.sa l n lo len cap) (.slice (some ⟨V.ρ l, lo * n, none⟩) len cap)
  | bd (f : FuncId) (cs : List AV) (vs : List Value) (hl : cs.length = vs.length) (h : ∀ (j : Nat) (x : AV) (y : Value), cs[j]? = some x → vs[j]? = some y → Den V M x y) :
      Den V M (.bd f cs) (.func (.func f) vs.toArray #[])
  | mp (l : Nat) : Den V M (.mp l) (.map (some (V.ρ l)))

/-- The labels that a value names. -/
inductive Ment : AV → Nat → Prop
  | loc (l j : Nat) : Ment (.loc l j) l
  | locr (l n i j : Nat) : Ment (.locr l n i j) l
  | own (l len : Nat) : Ment (.own l len) l
  | sl (l n lo len : Nat) : Ment (.sl l n lo len) l
  | fn (f : FuncId) (cs : List AV) (x : AV) (l : Nat) (hx : x ∈ cs) (h : Ment x l) : Ment (.fn f cs) l
  | agg (cs : List AV) (x : AV) (l : Nat) (hx : x ∈ cs) (h : Ment x l) : Ment (.agg cs) l
  | tup (cs : List AV) (x : AV) (l : Nat) (hx : x ∈ cs) (h : Ment x l) : Ment (.tup cs) l
  | gd (c : Bool) (x : AV) (l : Nat) (h : Ment x l) : Ment (.gd c x) l
  | yld (l : Nat) : Ment (.yld l) l
  | sa (l n lo len cap : Nat) : Ment (.sa l n lo len cap) l
  | bd (f : FuncId) (cs : List AV) (x : AV) (l : Nat) (hx : x ∈ cs) (h : Ment x l) : Ment (.bd f cs) l
  | mp (l : Nat) : Ment (.mp l) l

theorem Den.mono {V V' : Vals} {M M' : Mem} (hle : M.le M') {x : AV} {v : Value} (h : Den V M x v) :
    (∀ l, Ment x l → V'.ρ l = V.ρ l ∧ V'.κ l = V.κ l) → Den V' M' x v := by
  induction h with
  | d x v h => exact fun _ => .d x v (h.mono hle)
  | loc l j => intro hv; rw [← (hv l (.loc l j)).1]; exact .loc l j
  | locr l n i j => intro hv; rw [← (hv l (.locr l n i j)).1]; exact .locr l n i j
  | rp l b o c hm h => exact fun _ => .rp l b o c (fun j hj => hle _ _ _ (hm j hj)) (fun j x hx => (h j x hx).mono hle)
  | own l len cap hk hc => intro hv; have := hv l (.own l len); rw [← this.1]; exact .own l len cap (this.2.trans hk) hc
  | ownNil l hk => intro hv; exact .ownNil l ((hv l (.own l 0)).2.trans hk)
  | sl l n lo len cap hc hk => intro hv; have := hv l (.sl l n lo len); rw [← this.1]; exact .sl l n lo len cap hc (this.2.trans hk)
  | slEmp l n lo a cap => exact fun _ => .slEmp l n lo a cap
  | fn f cs vs hl _ ih => intro hv; exact .fn f cs vs hl fun j x y hx hy => ih j x y hx hy fun l hm => hv l (.fn f cs x l (List.mem_of_getElem? hx) hm)
  | agg cs vs hl _ ih => intro hv; exact .agg cs vs hl fun j x y hx hy => ih j x y hx hy fun l hm => hv l (.agg cs x l (List.mem_of_getElem? hx) hm)
  | tup cs vs hl _ ih => intro hv; exact .tup cs vs hl fun j x y hx hy => ih j x y hx hy fun l hm => hv l (.tup cs x l (List.mem_of_getElem? hx) hm)
  | gd c x v _ hu ih => intro hv; exact .gd c x v (fun hc => ih hc fun l hm => hv l (.gd c x l hm)) hu
  | yld l => intro hv; rw [← (hv l (.yld l)).1]; exact .yld l
  | sa l n lo len cap hc => intro hv; rw [← (hv l (.sa l n lo len cap)).1]; exact .sa l n lo len cap hc
  | bd f cs vs hl _ ih => intro hv; exact .bd f cs vs hl fun j x y hx hy => ih j x y hx hy fun l hm => hv l (.bd f cs x l (List.mem_of_getElem? hx) hm)
  | mp l => intro hv; rw [← (hv l (.mp l)).1]; exact .mp l

/-- A column of a block of rows. -/
inductive Col where
  | ints (k : IntKind) (xs : List Int)
  | bools (xs : List Bool)
  | ds (xs : List D)
def Col.len : Col → Nat
  | .ints _ xs => xs.length
  | .bools xs => xs.length
  | .ds xs => xs.length
def Col.at : Col → Nat → D
  | .ints k xs, i => .v (.int k (xs.getD i 0))
  | .bools xs, i => .v (.bool (xs.getD i false))
  | .ds xs, i => xs.getD i (.v .nilFunc)

/-- A range over a function: its record, but for the temporaries. -/
structure LH where
  st : LoopState
  pe : Option Code
  ps : Array Tmp
  assign : Code
  body : Code
  nt : Nat

/-- What a block holds: just these cells; just 'len' rows of n cells (an array); a row that a slice owns: at least 'len' rows of n cells. -/
inductive Blk where
  | cells (l : List AV)
  | data (l : List D)
  | cols (n len : Nat) (cs : List Col)
  | app (n len : Nat) (cs : List Col)
  | lp (h : LH) (ts : List (Nat × AV))
  | appv (l : List AV)
  | keys (ks : List (List Int))

def rowsAt (M : Mem) (n len : Nat) (cs : List Col) (vs : Array Value) : Prop :=
  cs.length = n ∧ (∀ c ∈ cs, c.len = len) ∧ ∀ i j c, i < len → cs[j]? = some c → ∃ v, vs[i * n + j]? = some v ∧ DenD M (c.at i) v

def cellsAt (V : Vals) (M : Mem) (w : World) (l : Nat) (cs : List AV) : Prop :=
  V.κ l ≠ none ∧ ∃ vs t, w.heap[V.ρ l]? = some (.cells vs t (0, 0)) ∧ vs.size = cs.length ∧ ∀ (j : Nat) (x : AV) (y : Value), cs[j]? = some x → vs[j]? = some y → Den V M x y
def lpAt (V : Vals) (M : Mem) (w : World) (l : Nat) (h : LH) (ts : List (Nat × AV)) : Prop :=
  V.κ l ≠ none ∧ ∃ fn tmps d, w.heap[V.ρ l]? = some (.loop { state := h.st, pending := h.pe, fn := fn, tmps := tmps, params := h.ps, assign := h.assign, body := h.body, defers := d }) ∧
    tmps.size = h.nt ∧ ∀ p ∈ ts, ∃ v, tmps[p.1]? = some v ∧ Den V M p.2 v
/-- A slice's own block of one-cell elements that may be slices of ours. -/
def appvAt (V : Vals) (M : Mem) (w : World) (lab : Nat) (l : List AV) : Prop :=
  match V.κ lab with
  | none => l = []
  | some cap => l.length ≤ cap ∧ ∃ vs t, w.heap[V.ρ lab]? = some (.cells vs t (0, 0)) ∧ vs.size = cap ∧ ∀ (j : Nat) (x : AV), l[j]? = some x → ∃ v, vs[j]? = some v ∧ Den V M x v
/-- The cells of an array of bytes. -/
def bytesV (k : List Int) : Value := .agg (k.map fun x => Value.int .u8 x).toArray
/-- A map whose keys are arrays of bytes and whose values are all true. -/
def keysAt (V : Vals) (w : World) (l : Nat) (ks : List (List Int)) : Prop :=
  V.κ l ≠ none ∧ ∃ es c, w.heap[V.ρ l]? = some (.map es c) ∧ (∀ e ∈ es.toList, e.val = .bool true ∧ ∃ k ∈ ks, e.key = bytesV k) ∧ ∀ k ∈ ks, ∃ e ∈ es.toList, e.key = bytesV k
def BlkAt (V : Vals) (M : Mem) (w : World) (l : Nat) : Blk → Prop
  | .cells cs => cellsAt V M w l cs
  | .data ds => cellsAt V M w l (ds.map .d)
  | .cols n len cs => V.κ l ≠ none ∧ ∃ vs t, w.heap[V.ρ l]? = some (.cells vs t (0, 0)) ∧ vs.size = len * n ∧ rowsAt M n len cs vs
  | .app n len cs => cs.length = n ∧ (∀ c ∈ cs, c.len = len) ∧
      match V.κ l with
      | none => len = 0
      | some cap => len ≤ cap ∧ ∃ vs t, w.heap[V.ρ l]? = some (.cells vs t (0, 0)) ∧ vs.size = cap * n ∧ rowsAt M n len cs vs
  | .lp h ts => lpAt V M w l h ts
  | .appv cs => appvAt V M w l cs
  | .keys ks => keysAt V w l ks

inductive BMent : Blk → Nat → Prop
  | cells (cs : List AV) (x : AV) (l : Nat) (hx : x ∈ cs) (h : Ment x l) : BMent (.cells cs) l
  | lp (h : LH) (ts : List (Nat × AV)) (p : Nat × AV) (l : Nat) (hx : p ∈ ts) (hm : Ment p.2 l) : BMent (.lp h ts) l
  | appv (cs : List AV) (x : AV) (l : Nat) (hx : x ∈ cs) (h : Ment x l) : BMent (.appv cs) l

theorem lpAt.turn {V V' : Vals} {M M' : Mem} {w w' : World} {l : Nat} {h : LH} {ts : List (Nat × AV)} (hh : lpAt V M w l h ts) (hM : M.le M') (hl : V'.ρ l = V.ρ l ∧ V'.κ l = V.κ l) (hm : ∀ l', BMent (.lp h ts) l' → V'.ρ l' = V.ρ l' ∧ V'.κ l' = V.κ l')
    (hw : V.κ l ≠ none → w'.heap[V.ρ l]? = w.heap[V.ρ l]?) : lpAt V' M' w' l h ts := by
  obtain ⟨hk, fn, tmps, d, h1, h2, h3⟩ := hh
  exact ⟨by rw [hl.2]; exact hk, fn, tmps, d, by rw [hl.1, hw hk]; exact h1, h2, fun p hp => let ⟨v, hv, hd⟩ := h3 p hp; ⟨v, hv, hd.mono hM fun l' hl' => hm l' (.lp h ts p l' hp hl')⟩⟩

theorem appvAt.turn {V V' : Vals} {M M' : Mem} {w w' : World} {l : Nat} {cs : List AV} (hh : appvAt V M w l cs) (hM : M.le M') (hl : V'.ρ l = V.ρ l ∧ V'.κ l = V.κ l) (hm : ∀ l', BMent (.appv cs) l' → V'.ρ l' = V.ρ l' ∧ V'.κ l' = V.κ l')
    (hw : V.κ l ≠ none → w'.heap[V.ρ l]? = w.heap[V.ρ l]?) : appvAt V' M' w' l cs := by
  unfold appvAt at *
  rw [hl.2, hl.1]
  cases hk : V.κ l with
  | none => rw [hk] at hh; exact hh
  | some cap =>
    rw [hk] at hh
    obtain ⟨h1, vs, t, h2, h3, h4⟩ := hh
    exact ⟨h1, vs, t, by rw [hw (by rw [hk]; simp)]; exact h2, h3, fun j x hx => let ⟨v, hv, hd⟩ := h4 j x hx; ⟨v, hv, hd.mono hM fun l' hl' => hm l' (.appv cs x l' (List.mem_of_getElem? hx) hl')⟩⟩

inductive Cont where
  | av (x : AV)
  | blk (B : Blk)

def CMent : Cont → Nat → Prop
  | .av x, l => Ment x l
  | .blk B, l => BMent B l

abbrev St := List (Nat × Cont)
abbrev sl (t : Nat) : Nat := 2 * t
abbrev bk (l : Nat) : Nat := 2 * l + 1

def St.get : St → Nat → Option Cont
  | [], _ => none
  | (m, c) :: r, n => bif Nat.beq m n then some c else St.get r n
def St.ins (n : Nat) (c : Cont) : St → St
  | [] => [(n, c)]
  | (m, d) :: r => bif Nat.beq m n then (n, c) :: r else (m, d) :: St.ins n c r
def St.del (n : Nat) : St → St
  | [] => []
  | (m, d) :: r => bif Nat.beq m n then St.del n r else (m, d) :: St.del n r
def St.put1 (S : St) (u : Nat × Option Cont) : St :=
  match u with
  | (n, some c) => St.ins n c S
  | (n, none) => St.del n S
def St.upd : St → List (Nat × Option Cont) → St
  | S, [] => S
  | S, u :: r => (S.put1 u).upd r

theorem nbeq (m n : Nat) : Nat.beq m n = decide (m = n) := by
  cases h : Nat.beq m n with
  | true => exact (decide_eq_true (Nat.eq_of_beq_eq_true h)).symm
  | false => exact (decide_eq_false (Nat.ne_of_beq_eq_false h)).symm

theorem St.get_ins (S : St) (n : Nat) (c : Cont) (m : Nat) : (St.ins n c S).get m = if n = m then some c else S.get m := by
  induction S with
  | nil => by_cases h : n = m <;> simp [St.ins, St.get, nbeq, h]
  | cons x r ih =>
    obtain ⟨k, d⟩ := x
    by_cases hk : k = n
    · subst hk
      by_cases h : k = m <;> simp [St.ins, St.get, nbeq, h]
    · by_cases h : k = m
      · subst h
        simp [St.ins, St.get, nbeq, hk, Ne.symm hk]
      · simp [St.ins, St.get, nbeq, hk, h, ih]
theorem St.get_del (S : St) (n : Nat) (m : Nat) : (St.del n S).get m = if n = m then none else S.get m := by
  induction S with
  | nil => simp [St.del, St.get]
  | cons x r ih =>
    obtain ⟨k, d⟩ := x
    by_cases hk : k = n
    · subst hk
      by_cases h : k = m
      · subst h; simpa [St.del, St.get, nbeq] using ih
      · simp [St.del, St.get, nbeq, h, ih]
    · by_cases h : k = m
      · subst h
        simp [St.del, St.get, nbeq, hk, Ne.symm hk]
      · simp [St.del, St.get, nbeq, hk, h, ih]
theorem St.get_put1 (S : St) (u : Nat × Option Cont) (m : Nat) : (S.put1 u).get m = if u.1 = m then u.2 else S.get m := by
  obtain ⟨n, c⟩ := u
  cases c with
  | some c => exact St.get_ins S n c m
  | none => exact St.get_del S n m

structure Env where
  w0 : World
  passed : List Nat
  M0 : Mem
  V0 : Vals
  keep : List Nat
  nt : Nat
  dfs : List Deferred := []
abbrev Env.of (w0 : World) (passed : List Nat) (M0 : Mem) (V0 : Vals) (keep : List Nat) (nt : Nat) : Env := { w0 := w0, passed := passed, M0 := M0, V0 := V0, keep := keep, nt := nt }

structure FrameOK (E : Env) (w : World) : Prop where
  os : w.os = E.w0.os
  tape : w.tape = E.w0.tape
  output : w.output = E.w0.output
  size : E.w0.heap.size ≤ w.heap.size
  block : ∀ b, b < E.w0.heap.size → b ∉ E.passed → w.heap[b]? = E.w0.heap[b]?

def HasB (V : Vals) (S : St) (l : Nat) : Prop := (∃ B, S.get (bk l) = some (.blk B)) ∧ V.κ l ≠ none

/-- The package-level variables lie as the program's text lays them. -/
def Glob (M : Mem) : Prop := ∀ p ∈ globs, ∀ (j : Nat) (x : Value), p.2[j]? = some x → M p.1 j = some x
theorem Glob.mono {M M' : Mem} (h : Glob M) (hle : M.le M') : Glob M' := fun p hp j x hx => hle _ _ _ (h p hp j x hx)
structure RepW (E : Env) (S : St) (V : Vals) (M : Mem) (w : World) : Prop where
  blks : ∀ l B, S.get (bk l) = some (.blk B) → BlkAt V M w l B
  inj : ∀ l l', HasB V S l → HasB V S l' → l ≠ l' → V.ρ l ≠ V.ρ l'
  sep : ∀ l, HasB V S l → ∀ o, M (V.ρ l) o = none
  fresh : ∀ l, HasB V S l → E.w0.heap.size ≤ V.ρ l ∨ V.ρ l ∈ E.passed
  bd : ∀ l, HasB V S l → V.ρ l < w.heap.size
  mem : ∀ b o v, M b o = some v → w.cell? ⟨b, o, none⟩ = some v
  mle : E.M0.le M
  glb : Glob E.M0
  mnew : ∀ b o, M b o ≠ none → E.M0 b o ≠ none ∨ E.w0.heap.size ≤ b ∨ b ∈ E.passed
  keep : ∀ l ∈ E.keep, V.ρ l = E.V0.ρ l ∧ V.κ l = E.V0.κ l
  frame : FrameOK E w

theorem RepW.gl {E : Env} {S : St} {V : Vals} {M : Mem} {w : World} (h : RepW E S V M w) : Glob M := h.glb.mono h.mle
structure RepA (E : Env) (S : St) (V : Vals) (M : Mem) (a : Act) : Prop where
  slots : ∀ t x, S.get (sl t) = some (.av x) → ∃ v, a.tmps[t]? = some v ∧ Den V M x v
  size : a.tmps.size = E.nt
  defers : a.defers = E.dfs

def Rep (E : Env) (S : St) (a : Act) (w : World) : Prop := ∃ V M, RepA E S V M a ∧ RepW E S V M w

/-- Only what 'get' gives counts; and less may be known. -/
def St.le (S' S : St) : Prop := ∀ n c, S'.get n = some c → S.get n = some c
theorem St.le_refl (S : St) : S.le S := fun _ _ h => h
theorem St.le_trans {A B C : St} (h : A.le B) (k : B.le C) : A.le C := fun n c e => k n c (h n c e)

theorem RepA.weaken {E : Env} {S S' : St} {V : Vals} {M : Mem} {a : Act} (h : RepA E S V M a) (hle : S'.le S) : RepA E S' V M a :=
  ⟨fun t x e => h.slots t x (hle _ _ e), h.size, h.defers⟩
theorem HasB.weaken {V : Vals} {S S' : St} (hle : S'.le S) {l : Nat} (h : HasB V S' l) : HasB V S l :=
  ⟨let ⟨B, e⟩ := h.1; ⟨B, hle _ _ e⟩, h.2⟩
theorem RepW.weaken {E : Env} {S S' : St} {V : Vals} {M : Mem} {w : World} (h : RepW E S V M w) (hle : S'.le S) : RepW E S' V M w :=
  { blks := fun l B e => h.blks l B (hle _ _ e)
    inj := fun l l' a b => h.inj l l' (a.weaken hle) (b.weaken hle)
    sep := fun l a => h.sep l (a.weaken hle)
    fresh := fun l a => h.fresh l (a.weaken hle)
    bd := fun l a => h.bd l (a.weaken hle)
    mem := h.mem, mle := h.mle, glb := h.glb, mnew := h.mnew, keep := h.keep, frame := h.frame }
theorem Rep.weaken {E : Env} {S S' : St} {a : Act} {w : World} (h : Rep E S a w) (hle : S'.le S) : Rep E S' a w :=
  let ⟨V, M, ha, hw⟩ := h; ⟨V, M, ha.weaken hle, hw.weaken hle⟩

/-- A world that differs from w by draws alone. -/
theorem RepW.drawn {E : Env} {S : St} {V : Vals} {M : Mem} {w : World} (h : RepW E S V M w) (k : Nat) : RepW E S V M { w with drawn := k } :=
  { blks := fun l B e => by
      have := h.blks l B e
      cases B <;> exact this
    inj := h.inj, sep := h.sep, fresh := h.fresh, bd := h.bd, mem := h.mem, mle := h.mle, glb := h.glb, mnew := h.mnew, keep := h.keep
    frame := ⟨h.frame.os, h.frame.tape, h.frame.output, h.frame.size, h.frame.block⟩ }
theorem Rep.drawn {E : Env} {S : St} {a : Act} {w : World} (h : Rep E S a w) (k : Nat) : Rep E S a { w with drawn := k } :=
  let ⟨V, M, ha, hw⟩ := h; ⟨V, M, ha, hw.drawn k⟩

end Go.Proofs.YtmdfamnnnoieaaaDoor

/- Operations on an abstract state, one after the other, and in every order that a region's edges allow. No program in sight. -/
namespace Go.Proofs.YtmdfamnnnoieaaaDoor
open Go
set_option linter.unusedSimpArgs false
set_option linter.unusedVariables false

/-- What a walk may assume of its frame: the round that it is in; the panic that it may end with, and what holds then. -/
structure Ro where
  round : Option Nat := none
  pan : Option (List PanicEntry × St) := none
  marks : Bool := false
abbrev FW (ro : Ro) : Fence := { Fence.wide with round := ro.round }
theorem fw_fn (ro : Ro) (f : FuncId) : (FW ro).fn f := trivial
theorem fw_depth (ro : Ro) (k : Nat) : (FW ro).depth.isSome = true → 1 ≤ k := fun h => by cases h

structure Ax where
  rn : List Nat
  S0 : St
  post : List (Nat × Option Cont)
  new : List Nat

def Ax.names (A : Ax) : List Nat := A.post.map Prod.fst
def Sub (A : Ax) (S : St) : Prop := ∀ n ∈ A.rn, S.get n = A.S0.get n
def Fresh (A : Ax) (S : St) : Prop := ∀ l ∈ A.new, ∀ n c, S.get n = some c → n ∉ A.names → ¬ CMent c l

variable {P : Program} {ro : Ro} {ops : Array Oper}

/-- One operation in its region: carried out, or passed over by its guard. -/
def stepIn (P : Program) (ro : Ro) (ops : Array Oper) (Q : Exit → Act → World → Prop) (o : Oper) (K : Act → World → Prop) (a : Act) (w : World) : Prop :=
  if Region.wanted o (yielded ops a.tmps) then o.wpIn (FW ro) 0 P a w K Q else (∀ f, o.about P w a.eval = some f → (FW ro).fn f) ∧ K (a.put o.dst undef) w

theorem stepIn_mono {Q : Exit → Act → World → Prop} {o : Oper} {K K' : Act → World → Prop} {a : Act} {w : World} (h : ∀ a w, K a w → K' a w) (hh : stepIn P ro ops Q o K a w) : stepIn P ro ops Q o K' a w := by
  unfold stepIn at *
  split
  · rename_i hw; simp only [hw, if_true] at hh; exact Oper.wpIn_mono h hh
  · rename_i hw; simp only [hw] at hh; exact ⟨hh.1, h _ _ hh.2⟩

/-- What an operation asks of the frame: the labels that it makes are not to be kept; the slots that it writes are there. -/
def AxOK (E : Env) (A : Ax) : Prop := (∀ l ∈ A.new, l ∉ E.keep) ∧ ∀ t, sl t ∈ A.names → t < E.nt

def AxOp (P : Program) (ro : Ro) (ops : Array Oper) (o : Oper) (A : Ax) : Prop :=
  ∀ (E : Env) (S : St) (a : Act) (w : World), Sub A S → Fresh A S → AxOK E A → Rep E S a w →
    ∀ Q, (∀ x, ro.pan = some x → ∀ a w, Rep E x.2 a w → Q (.panic x.1) a w) → stepIn P ro ops Q o (Rep E (S.upd A.post)) a w

inductive Trace (P : Program) (ro : Ro) (ops : Array Oper) : List Oper → St → List Ax → St → Prop
  | nil (S : St) : Trace P ro ops [] S [] S
  | cons {o : Oper} {A : Ax} {S T : St} {r : List Oper} {l : List Ax} {S' : St} (ha : AxOp P ro ops o A) (hs : Sub A S) (hf : Fresh A S) (he : ∀ n, T.get n = (S.upd A.post).get n) (h : Trace P ro ops r T l S') :
      Trace P ro ops (o :: r) S (A :: l) S'

def KeepOK (E : Env) (l : List Ax) : Prop := ∀ A ∈ l, AxOK E A

/-- Odd; by recursion, so that it may be reckoned where other things stand open. -/
def oddB : Nat → Bool
  | 0 => false
  | n + 1 => !oddB n
theorem oddB_two (t : Nat) : oddB (2 * t) = false := by
  induction t with
  | zero => rfl
  | succ t ih => show (!(!oddB (2 * t))) = false; simp [ih]
def axOKB (keep : List Nat) (nt : Nat) (A : Ax) : Bool := A.new.all (fun l => keep.all fun m => !Nat.beq m l) && A.names.all (fun n => Nat.blt n (2 * nt) || oddB n)
theorem keepOK_of {E : Env} {l : List Ax} {keep : List Nat} {nt : Nat} (hk : E.keep = keep) (hn : E.nt = nt) (h : l.all (axOKB keep nt) = true) : KeepOK E l := by
  intro A hA
  have := List.all_eq_true.1 h A hA
  simp only [axOKB, Bool.and_eq_true, List.all_eq_true, Bool.or_eq_true, Bool.not_eq_true'] at this
  refine ⟨fun l hl hm => ?_, fun t ht => ?_⟩
  · rw [hk] at hm
    have := this.1 l hl l hm
    simp [nbeq] at this
  · rcases this.2 _ ht with h | h
    · have := Nat.le_of_ble_eq_true h
      rw [hn]; show t < nt
      have : 2 * t < 2 * nt := this
      omega
    · have : oddB (2 * t) = true := h
      rw [oddB_two] at this; cases this

theorem wpOpsIn_of_trace {Q : Exit → Act → World → Prop} {E : Env} {l : List Oper} {S S' : St} {L : List Ax} (h : Trace P ro ops l S L S') :
    KeepOK E L → (∀ x, ro.pan = some x → ∀ a w, Rep E x.2 a w → Q (.panic x.1) a w) → (∀ a w, Rep E S' a w → Q .normal a w) → ∀ k, (∀ j, l[j]? = ops[k + j]?) → ∀ a w, Rep E S a w →
      wpOpsIn (FW ro) 0 P ops Q (List.range' k l.length) a w := by
  induction h with
  | nil S => intro _ _ hq k _ a w hr; exact hq a w hr
  | @cons o A S T r l S' ha hs hf he h ih =>
    intro hk hpn hq k hj a w hr
    have h0 : ops[k]? = some o := by simpa using (hj 0).symm
    have hs' := ha E S a w hs hf (hk A (by simp)) hr Q hpn
    rw [List.length_cons, List.range'_succ, wpOpsIn_cons]
    unfold wpOpIn
    simp only [h0]
    exact stepIn_mono (fun a w hr => ih (fun B hB => hk B (by simp [hB])) hpn hq (k + 1) (fun j => by have := hj (j + 1); simpa [Nat.add_assoc, Nat.add_comm 1 j] using this) a w (hr.weaken fun n c e => by rw [← he n]; exact e)) hs'

theorem get_cons (S : St) (n : Nat) (c : Cont) (m : Nat) : St.get ((n, c) :: S) m = if n = m then some c else S.get m := by
  simp only [St.get, nbeq]
  by_cases h : n = m <;> simp [h]
theorem cons_upd (S : St) (n : Nat) (c : Cont) : ∀ m, St.get ((n, c) :: S) m = (S.upd [(n, some c)]).get m := fun m => by
  rw [get_cons]; show _ = (St.ins n c S).get m; rw [St.get_ins]

/-! ### Every order -/

/-- Two states that 'get' cannot tell apart. -/
def St.Eqv (S T : St) : Prop := ∀ n, S.get n = T.get n

def lastOf (n : Nat) (d : Option Cont) : List (Nat × Option Cont) → Option Cont
  | [] => d
  | (m, c) :: r => lastOf n (if m = n then c else d) r
theorem St.get_upd (u : List (Nat × Option Cont)) : ∀ (S : St) (n : Nat), (S.upd u).get n = lastOf n (S.get n) u := by
  induction u with
  | nil => intro S n; rfl
  | cons x r ih => intro S n; obtain ⟨m, c⟩ := x; simp only [St.upd, lastOf]; rw [ih, St.get_put1]
theorem lastOf_notin {n : Nat} {d : Option Cont} {u : List (Nat × Option Cont)} (h : n ∉ u.map Prod.fst) : lastOf n d u = d := by
  induction u generalizing d with
  | nil => rfl
  | cons x r ih =>
    obtain ⟨m, c⟩ := x
    simp only [List.map_cons, List.mem_cons, not_or] at h
    simp only [lastOf]
    rw [if_neg (fun e => h.1 e.symm)]
    exact ih h.2
theorem lastOf_some {n : Nat} {d : Option Cont} {u : List (Nat × Option Cont)} {c : Cont} (h : lastOf n d u = some c) : d = some c ∧ n ∉ u.map Prod.fst ∨ (n, some c) ∈ u := by
  induction u generalizing d with
  | nil => exact .inl ⟨h, by simp⟩
  | cons x r ih =>
    obtain ⟨m, b⟩ := x
    simp only [lastOf] at h
    rcases ih h with ⟨h1, h2⟩ | h1
    · by_cases hm : m = n
      · subst hm; rw [if_pos rfl] at h1; right; simp [h1]
      · rw [if_neg hm] at h1; left; exact ⟨h1, by simp [h2]; exact fun e => hm e.symm⟩
    · right; simp [h1]

structure Indep (A B : Ax) : Prop where
  ab : ∀ n ∈ A.names, n ∉ B.rn ∧ n ∉ B.names
  ba : ∀ n ∈ B.names, n ∉ A.rn

/-- B's values name no label that A makes. -/
def NoMent (B A : Ax) : Prop := ∀ l ∈ A.new, ∀ p ∈ B.post, p.1 ∉ A.names → ∀ c, p.2 = some c → ¬ CMent c l

structure Item where
  i : Nat
  o : Oper
  A : Ax

inductive Tr (P : Program) (ro : Ro) (ops : Array Oper) : List Item → St → St → Prop
  | nil {S S' : St} (h : S.Eqv S') : Tr P ro ops [] S S'
  | cons {x : Item} {r : List Item} {S S' : St} (ha : AxOp P ro ops x.o x.A) (hs : Sub x.A S) (h : Tr P ro ops r (S.upd x.A.post) S') : Tr P ro ops (x :: r) S S'

theorem upd_eqv {S T : St} (h : S.Eqv T) (u : List (Nat × Option Cont)) : (S.upd u).Eqv (T.upd u) := fun n => by rw [St.get_upd, St.get_upd, h n]

theorem Tr.congr {l : List Item} {S S' : St} (h : Tr P ro ops l S S') : ∀ {T : St}, S.Eqv T → Tr P ro ops l T S' := by
  induction h with
  | nil h => intro T e; exact .nil fun n => (e n).symm.trans (h n)
  | cons ha hs _ ih => intro T e; exact .cons ha (fun p hp => (e p).symm.trans (hs p hp)) (ih (upd_eqv e _))

theorem Tr.swap {x y : Item} {r : List Item} {S S' : St} (hi : Indep x.A y.A) (h : Tr P ro ops (x :: y :: r) S S') : Tr P ro ops (y :: x :: r) S S' := by
  cases h with
  | cons hax hsx h =>
    cases h with
    | cons hay hsy h =>
      have sy : Sub y.A S := fun p hp => by
        have := hsy p hp
        rw [St.get_upd, lastOf_notin (fun hn => (hi.ab p hn).1 hp)] at this
        exact this
      have sx : Sub x.A (S.upd y.A.post) := fun p hp => by
        rw [St.get_upd, lastOf_notin (fun hn => hi.ba p hn hp)]
        exact hsx p hp
      refine .cons hay sy (.cons hax sx (h.congr fun n => ?_))
      simp only [St.get_upd]
      by_cases hy : n ∈ y.A.names
      · have hx : n ∉ x.A.names := fun hx => (hi.ab n hx).2 hy
        rw [lastOf_notin (u := x.A.post) hx, lastOf_notin (u := x.A.post) hx]
      · rw [lastOf_notin (u := y.A.post) hy, lastOf_notin (u := y.A.post) hy]

/-- What is picked may come first, where it is apart from all before it. -/
theorem Tr.front {x : Item} {r : List Item} {S' : St} : ∀ {p : List Item} {S : St}, (∀ y ∈ p, Indep y.A x.A) → Tr P ro ops (p ++ x :: r) S S' → Tr P ro ops (x :: (p ++ r)) S S'
  | [], _, _, h => h
  | y :: p, S, hi, h => by
    cases h with
    | cons ha hs h =>
      have h' := Tr.front (p := p) (fun z hz => hi z (by simp [hz])) h
      exact Tr.swap (hi y (by simp)) (.cons ha hs h')

/-! The ancestors of each operation, as a number's bits. -/
def bindsAny (e : Edge) : Bool := Region.binds .any e
def maskOf (acc : List Nat) (es : List Edge) : Nat := es.foldl (fun m e => bif bindsAny e then Nat.lor m (Nat.lor (acc.getD e.on 0) (Nat.shiftLeft 1 e.on)) else m) 0
def masks : List Oper → List Nat → List Nat
  | [], acc => acc
  | o :: r, acc => masks r (acc ++ [maskOf acc o.after.toList])
def edgesBack : List Oper → Nat → Bool
  | [], _ => true
  | o :: r, k => o.after.toList.all (fun e => !bindsAny e || Nat.blt e.on k) && edgesBack r (k + 1)

mutual
def AV.ment (l : Nat) : AV → Bool
  | .d _ => false
  | .loc a _ => Nat.beq a l
  | .locr a _ _ _ => Nat.beq a l
  | .rp _ => false
  | .own a _ => Nat.beq a l
  | .sl a _ _ _ => Nat.beq a l
  | .fn _ cs => AV.ments l cs
  | .agg cs => AV.ments l cs
  | .tup cs => AV.ments l cs
  | .gd _ x => AV.ment l x
  | .yld a => Nat.beq a l
  | .sa a _ _ _ _ => Nat.beq a l
  | .bd _ cs => AV.ments l cs
  | .mp a => Nat.beq a l
def AV.ments (l : Nat) : List AV → Bool
  | [] => false
  | x :: r => AV.ment l x || AV.ments l r
end
def slotsMent (l : Nat) : List (Nat × AV) → Bool
  | [] => false
  | p :: r => p.2.ment l || slotsMent l r
theorem slotsMent_of {l : Nat} {p : Nat × AV} {ts : List (Nat × AV)} (hp : p ∈ ts) (h : p.2.ment l = true) : slotsMent l ts = true := by
  induction ts with
  | nil => cases hp
  | cons q r ih =>
    simp only [slotsMent, Bool.or_eq_true]
    rcases List.mem_cons.1 hp with rfl | hp
    · exact .inl h
    · exact .inr (ih hp)
def Cont.ment (l : Nat) : Cont → Bool
  | .av x => x.ment l
  | .blk (.cells cs) => AV.ments l cs
  | .blk (.lp _ ts) => slotsMent l ts
  | .blk (.appv cs) => AV.ments l cs
  | .blk _ => false

theorem ments_of_mem {l : Nat} {x : AV} {cs : List AV} (hx : x ∈ cs) (h : x.ment l = true) : AV.ments l cs = true := by
  induction cs with
  | nil => cases hx
  | cons y r ih =>
    simp only [AV.ments, Bool.or_eq_true]
    rcases List.mem_cons.1 hx with rfl | hx
    · exact .inl h
    · exact .inr (ih hx)
theorem ment_of {x : AV} {l : Nat} (h : Ment x l) : x.ment l = true := by
  induction h with
  | loc l j => simp [AV.ment]
  | locr l n i j => simp [AV.ment]
  | own l len => simp [AV.ment]
  | sl l n lo len => simp [AV.ment]
  | fn f cs x l hx _ ih => simp only [AV.ment]; exact ments_of_mem hx ih
  | agg cs x l hx _ ih => simp only [AV.ment]; exact ments_of_mem hx ih
  | tup cs x l hx _ ih => simp only [AV.ment]; exact ments_of_mem hx ih
  | gd c x l _ ih => simpa only [AV.ment] using ih
  | yld l => simp [AV.ment]
  | sa l n lo len cap => simp [AV.ment]
  | bd f cs x l hx _ ih => simp only [AV.ment]; exact ments_of_mem hx ih
  | mp l => simp [AV.ment]
theorem cment_of {c : Cont} {l : Nat} (h : CMent c l) : c.ment l = true := by
  cases c with
  | av x => exact ment_of h
  | blk B =>
    cases h with
    | cells cs x l hx h => exact ments_of_mem hx (ment_of h)
    | lp h ts p l hx hm => exact slotsMent_of hx (ment_of hm)
    | appv cs x l hx h => exact ments_of_mem hx (ment_of h)

def memB (n : Nat) : List Nat → Bool
  | [] => false
  | m :: r => Nat.beq m n || memB n r
theorem memB_iff {n : Nat} {l : List Nat} : memB n l = true ↔ n ∈ l := by
  induction l with
  | nil => simp [memB]
  | cons m r ih => simp only [memB, Bool.or_eq_true, ih, List.mem_cons, nbeq, decide_eq_true_eq]; exact or_congr ⟨Eq.symm, Eq.symm⟩ Iff.rfl

def indepB (A B : Ax) : Bool :=
  A.names.all (fun n => !memB n B.rn && !memB n B.names) && B.names.all (fun n => !memB n A.rn)
theorem indep_of {A B : Ax} (h : indepB A B = true) : Indep A B := by
  simp only [indepB, Bool.and_eq_true, List.all_eq_true, Bool.not_eq_true'] at h
  have key : ∀ {n : Nat} {l : List Nat}, memB n l = false → n ∉ l := fun h hn => by rw [memB_iff.2 hn] at h; cases h
  exact ⟨fun n hn => ⟨key (h.1 n hn).1, key (h.1 n hn).2⟩, fun n hn => key (h.2 n hn)⟩
def postB (l : Nat) (ns : List Nat) : List (Nat × Option Cont) → Bool
  | [] => true
  | (n, c) :: r => (memB n ns || (match c with | some c => !c.ment l | none => true)) && postB l ns r
theorem postB_mem {l : Nat} {ns : List Nat} : ∀ {P : List (Nat × Option Cont)}, postB l ns P = true → ∀ p ∈ P, p.1 ∈ ns ∨ ∀ c, p.2 = some c → c.ment l = false
  | [], _, p, hp => by cases hp
  | (n, c) :: r, h, p, hp => by
    simp only [postB, Bool.and_eq_true, Bool.or_eq_true] at h
    rcases List.mem_cons.1 hp with rfl | hp
    · rcases h.1 with h | h
      · exact .inl (memB_iff.1 h)
      · exact .inr fun c' hc => by simp only at hc; subst hc; simpa using h
    · exact postB_mem h.2 p hp
def noMentB (B A : Ax) : Bool := A.new.all fun l => postB l A.names B.post
theorem noMent_of {B A : Ax} (h : noMentB B A = true) : NoMent B A := by
  simp only [noMentB, List.all_eq_true] at h
  intro l hl p hp hn c hc hm
  rcases postB_mem (h l hl) p hp with h | h
  · exact hn h
  · have := h c hc; rw [cment_of hm] at this; cases this
def freshB (A : Ax) (S : St) : Bool := A.new.all fun l => S.all fun p => memB p.1 A.names || (match S.get p.1 with | some c => !c.ment l | none => true)
theorem St.mem_of_get {S : St} {n : Nat} {c : Cont} (h : S.get n = some c) : (n, c) ∈ S := by
  induction S with
  | nil => cases h
  | cons x r ih =>
    obtain ⟨m, d⟩ := x
    simp only [St.get, nbeq] at h
    by_cases hm : m = n
    · subst hm; simp at h; simp [h]
    · simp [hm] at h; simp [ih h]
theorem fresh_of {A : Ax} {S : St} (h : freshB A S = true) : Fresh A S := by
  simp only [freshB, List.all_eq_true, Bool.or_eq_true, Bool.not_eq_true'] at h
  intro l hl n c hc hn hm
  rcases h l hl (n, c) (St.mem_of_get hc) with h | h
  · exact hn (memB_iff.1 h)
  · simp only [hc, cment_of hm, Bool.not_true, Bool.false_eq_true] at h

/-- Each pair: what comes later in the text is an heir of what came before it, or apart from it; and no value names a label that is yet to be made. -/
def pairB (ms : List Nat) (i : Nat) (A : Ax) (j : Nat) (B : Ax) : Bool :=
  ((ms.getD j 0).testBit i || (indepB A B && noMentB B A)) && noMentB A B
def laterB (ms : List Nat) (i : Nat) (A : Ax) : Nat → List Ax → Bool
  | _, [] => true
  | j, B :: r => pairB ms i A j B && laterB ms i A (j + 1) r
def pairsB (ms : List Nat) : Nat → List Ax → Bool
  | _, [] => true
  | i, A :: r => laterB ms i A (i + 1) r && pairsB ms (i + 1) r
def drawB (ops : List Oper) (S : St) (L : List Ax) : Bool := edgesBack ops 0 && pairsB (masks ops []) 0 L && L.all (freshB · S)

/-! The proof. -/
theorem masks_prefix : ∀ (r : List Oper) (acc : List Nat), ∃ t, masks r acc = acc ++ t
  | [], acc => ⟨[], by simp [masks]⟩
  | o :: r, acc => by
    obtain ⟨t, h⟩ := masks_prefix r (acc ++ [maskOf acc o.after.toList])
    exact ⟨maskOf acc o.after.toList :: t, by simp [masks, h]⟩

theorem masks_at : ∀ (r : List Oper) (acc : List Nat) (j : Nat) (o : Oper), r[j]? = some o →
    (masks r acc)[acc.length + j]? = some (maskOf ((masks r acc).take (acc.length + j)) o.after.toList)
  | [], _, _, _, h => by simp at h
  | p :: r, acc, 0, o, h => by
    simp only [List.getElem?_cons_zero, Option.some.injEq] at h
    subst h
    obtain ⟨t, ht⟩ := masks_prefix r (acc ++ [maskOf acc p.after.toList])
    simp [masks, ht]
  | p :: r, acc, j + 1, o, h => by
    simp only [List.getElem?_cons_succ] at h
    have := masks_at r (acc ++ [maskOf acc p.after.toList]) j o h
    simp only [List.length_append, List.length_cons, List.length_nil, Nat.zero_add] at this
    have e : acc.length + (j + 1) = acc.length + 1 + j := by omega
    rw [e]
    simpa [masks] using this

theorem maskOf_bits {acc : List Nat} {p : Nat → Prop} (es : List Edge) (h : ∀ e ∈ es, bindsAny e = true → p e.on ∧ ∀ i, (acc.getD e.on 0).testBit i = true → p i) :
    ∀ i, (maskOf acc es).testBit i = true → p i := by
  have key : ∀ (es : List Edge) (m : Nat), (∀ i, m.testBit i = true → p i) → (∀ e ∈ es, bindsAny e = true → p e.on ∧ ∀ i, (acc.getD e.on 0).testBit i = true → p i) →
      ∀ i, (es.foldl (fun m e => bif bindsAny e then Nat.lor m (Nat.lor (acc.getD e.on 0) (Nat.shiftLeft 1 e.on)) else m) m).testBit i = true → p i := by
    intro es
    induction es with
    | nil => intro m hm _ i hi; exact hm i hi
    | cons e r ih =>
      intro m hm he i hi
      refine ih _ ?_ (fun e' h' => he e' (by simp [h'])) i hi
      intro i hi
      replace hi : (bif bindsAny e then Nat.lor m (Nat.lor (acc.getD e.on 0) (Nat.shiftLeft 1 e.on)) else m).testBit i = true := hi
      cases hb : bindsAny e with
      | false => rw [hb] at hi; exact hm i hi
      | true =>
        rw [hb] at hi
        obtain ⟨h1, h2⟩ := he e (by simp) hb
        have hi' : (m ||| ((acc.getD e.on 0) ||| (1 <<< e.on))).testBit i = true := hi
        simp only [Nat.testBit_or, Bool.or_eq_true] at hi'
        rcases hi' with hi' | hi' | hi'
        · exact hm i hi'
        · exact h2 i hi'
        · simp only [Nat.testBit_shiftLeft, Bool.and_eq_true, decide_eq_true_eq] at hi'
          have : i - e.on = 0 := by
            cases hz : i - e.on with
            | zero => rfl
            | succ k => rw [hz] at hi'; simp [Nat.testBit_succ] at hi'
          have : i = e.on := by omega
          exact this ▸ h1
  exact key es 0 (fun i hi => by simp at hi) h

theorem edgesBack_at : ∀ (r : List Oper) (k j : Nat) (o : Oper), edgesBack r k = true → r[j]? = some o → ∀ e ∈ o.after.toList, bindsAny e = true → e.on < k + j
  | [], _, _, _, _, h => by simp at h
  | p :: r, k, 0, o, hb, h => by
    simp only [List.getElem?_cons_zero, Option.some.injEq] at h
    subst h
    simp only [edgesBack, Bool.and_eq_true, List.all_eq_true] at hb
    intro e he hbd
    have := hb.1 e he
    rw [hbd] at this
    simpa using this
  | p :: r, k, j + 1, o, hb, h => by
    simp only [List.getElem?_cons_succ] at h
    simp only [edgesBack, Bool.and_eq_true] at hb
    intro e he hbd
    have := edgesBack_at r (k + 1) j o hb.2 h e he hbd
    omega

theorem pairsB_at {ms : List Nat} : ∀ (L : List Ax) (k i j : Nat) (A B : Ax), pairsB ms k L = true → L[i]? = some A → L[j]? = some B → i < j → pairB ms (k + i) A (k + j) B = true := by
  have later : ∀ (r : List Ax) (i : Nat) (A : Ax) (k j : Nat) (B : Ax), laterB ms i A k r = true → r[j]? = some B → pairB ms i A (k + j) B = true := by
    intro r
    induction r with
    | nil => intro i A k j B _ h; simp at h
    | cons C r ih =>
      intro i A k j B hl h
      simp only [laterB, Bool.and_eq_true] at hl
      cases j with
      | zero => simp at h; subst h; exact hl.1
      | succ j => simp only [List.getElem?_cons_succ] at h; have := ih i A (k + 1) j B hl.2 h; rwa [show k + 1 + j = k + (j + 1) by omega] at this
  intro L
  induction L with
  | nil => intro k i j A B _ h; simp at h
  | cons C r ih =>
    intro k i j A B hp hi hj hij
    simp only [pairsB, Bool.and_eq_true] at hp
    cases j with
    | zero => omega
    | succ j =>
      simp only [List.getElem?_cons_succ] at hj
      cases i with
      | zero =>
        simp at hi; subst hi
        have := later r k C (k + 1) j B hp.1 hj
        rwa [show k + 1 + j = k + (j + 1) by omega] at this
      | succ i =>
        simp only [List.getElem?_cons_succ] at hi
        have := ih (k + 1) i j A B hp.2 hi hj (by omega)
        rwa [show k + 1 + i = k + (i + 1) by omega, show k + 1 + j = k + (j + 1) by omega] at this

/-- What is asked of the operations that are still to come ('rem', in the order of the text), at a state S. -/
structure Pend (ms : List Nat) (ops : Array Oper) (rem : List Item) : Prop where
  op : ∀ x ∈ rem, ops[x.i]? = some x.o
  sorted : rem.Pairwise (fun x y => x.i < y.i ∧ pairB ms x.i x.A y.i y.A = true)

theorem Pend.sub {ms : List Nat} {rem rem' : List Item} (h : Pend ms ops rem) (hs : rem'.Sublist rem) : Pend ms ops rem' :=
  ⟨fun x hx => h.op x (hs.subset hx), h.sorted.sublist hs⟩

theorem wpAnyIn_of_tr {Q : Exit → Act → World → Prop} {E : Env} {S' : St} (hback : edgesBack ops.toList 0 = true) (hpn : ∀ x, ro.pan = some x → ∀ a w, Rep E x.2 a w → Q (.panic x.1) a w) (hq : ∀ a w, Rep E S' a w → Q .normal a w) :
    ∀ (fuel : Nat) (listed : Array Bool) (rem : List Item) (S : St) (a : Act) (w : World), rem.length = fuel → listed.size = ops.size →
      (∀ i, (∃ x ∈ rem, x.i = i) ↔ i < ops.size ∧ listed.getD i true = false) →
      (∀ i, listed.getD i false = true → ∀ p, ((masks ops.toList []).getD i 0).testBit p = true → listed.getD p false = true) →
      Pend (masks ops.toList []) ops rem → (∀ x ∈ rem, AxOK E x.A) → (∀ x ∈ rem, Fresh x.A S) →
      Tr P ro ops rem S S' → Rep E S a w → wpAnyIn (FW ro) 0 P .any ops Q fuel listed a w := by
  intro fuel
  induction fuel with
  | zero =>
    intro listed rem S a w hlen hsz hrem hdown hp hk hf htr hr
    have hnil : rem = [] := List.length_eq_zero_iff.1 hlen
    subst hnil
    refine ⟨?_, ?_⟩
    · rw [List.eq_nil_iff_forall_not_mem]
      intro i hi
      rw [mem_ready] at hi
      obtain ⟨h1, o, ho, _⟩ := hi
      have hlt : i < ops.size := by
        rcases Nat.lt_or_ge i ops.size with h | h
        · exact h
        · simp [Array.getElem?_eq_none h] at ho
      have := (hrem i).2 ⟨hlt, h1⟩
      simp at this
    · cases htr with
      | nil h => exact hq a w (hr.weaken fun n c e => by rw [h n]; exact e)
  | succ fuel ih =>
    intro listed rem S a w hlen hsz hrem hdown hp hk hf htr hr
    refine ⟨?_, ?_⟩
    · intro hnil
      exfalso
      cases rem with
      | nil => simp at hlen
      | cons x r =>
        have hx := (hrem x.i).1 ⟨x, by simp, rfl⟩
        have hmem : x.i ∈ Region.ready .any ops listed := by
          rw [mem_ready]
          have hxo := hp.op x (by simp)
          refine ⟨hx.2, x.o, hxo, ?_⟩
          intro e he hbind
          have hlt := edgesBack_at ops.toList 0 x.i x.o hback (by simpa using hxo) e (by simpa using he) hbind
          simp only [Nat.zero_add] at hlt
          cases hl : listed.getD e.on false with
          | true => rfl
          | false =>
            exfalso
            have hlt' : e.on < ops.size := by omega
            have : listed.getD e.on true = false := by
              rw [Array.getD_eq_getD_getElem?] at hl ⊢
              have : e.on < listed.size := by omega
              simpa [this] using hl
            obtain ⟨y, hy, hye⟩ := (hrem e.on).2 ⟨hlt', this⟩
            rcases List.mem_cons.1 hy with rfl | hy
            · omega
            · have := (List.pairwise_cons.1 hp.sorted).1 y hy
              omega
        rw [hnil] at hmem
        cases hmem
    · intro i hi
      have hi' := hi
      rw [mem_ready] at hi'
      obtain ⟨hi2, o', ho', hi3⟩ := hi'
      have hi1 : i < ops.size := by
        rcases Nat.lt_or_ge i ops.size with h | h
        · exact h
        · simp [Array.getElem?_eq_none h] at ho'
      obtain ⟨x, hx, rfl⟩ := (hrem i).2 ⟨hi1, hi2⟩
      obtain ⟨p, r, rfl⟩ := List.append_of_mem hx
      have hxo := hp.op x hx
      rw [hxo] at ho'
      injection ho' with ho'
      subst ho'
      -- all ancestors are listed
      have hanc : ∀ q, ((masks ops.toList []).getD x.i 0).testBit q = true → listed.getD q false = true := by
        have hm := masks_at ops.toList [] x.i x.o (by simpa using hxo)
        simp only [List.length_nil, Nat.zero_add] at hm
        intro q hqb
        rw [List.getD_eq_getElem?_getD, hm] at hqb
        refine maskOf_bits (p := fun q => listed.getD q false = true) x.o.after.toList ?_ q hqb
        intro e he hb
        have hon : listed.getD e.on false = true := hi3 e (by simpa using he) hb
        refine ⟨hon, fun t ht => hdown e.on hon t ?_⟩
        have hlt := edgesBack_at ops.toList 0 x.i x.o hback (by simpa using hxo) e he hb
        simp only [Nat.zero_add] at hlt
        rw [List.getD_eq_getElem?_getD] at ht ⊢
        rwa [List.getElem?_take_of_lt hlt] at ht
      have hsorted := List.pairwise_append.1 hp.sorted
      have hpre : ∀ y ∈ p, Indep y.A x.A ∧ NoMent x.A y.A := fun y hy => by
        obtain ⟨hlt, hpb⟩ := hsorted.2.2 y hy x (by simp)
        simp only [pairB, Bool.and_eq_true, Bool.or_eq_true] at hpb
        rcases hpb.1 with hb | hb
        · exfalso
          have hl := hanc y.i hb
          have hy' := (hrem y.i).1 ⟨y, by simp [hy], rfl⟩
          have : listed.getD y.i true = true := by
            rw [Array.getD_eq_getD_getElem?] at hl ⊢
            have : y.i < listed.size := by omega
            simpa [this] using hl
          rw [this] at hy'
          exact absurd hy'.2 (by simp)
        · exact ⟨indep_of hb.1, noMent_of hb.2⟩
      have hpost : ∀ y ∈ r, NoMent x.A y.A := fun y hy => by
        have hc := (List.pairwise_cons.1 hsorted.2.1).1 y hy
        simp only [pairB, Bool.and_eq_true] at hc
        exact noMent_of hc.2.2
      have hfront := Tr.front (fun y hy => (hpre y hy).1) htr
      cases hfront with
      | cons ha hs h =>
        have hstep := ha E S a w hs (hf x hx) (hk x hx) hr Q hpn
        unfold wpOpIn
        simp only [hxo]
        refine stepIn_mono (fun a' w' hr' => ?_) hstep
        have hsub : (p ++ r).Sublist (p ++ x :: r) := List.Sublist.append_left (List.sublist_cons_self x r) p
        have hnd : ∀ y ∈ p ++ r, y.i ≠ x.i := fun y hy e => by
          rcases List.mem_append.1 hy with hy | hy
          · have := (hsorted.2.2 y hy x (by simp)).1; omega
          · have := ((List.pairwise_cons.1 hsorted.2.1).1 y hy).1; omega
        have hset : ∀ q d, (listed.setIfInBounds x.i true).getD q d = if q = x.i then true else listed.getD q d := by
          intro q d
          by_cases h : q = x.i
          · subst h
            have : x.i < listed.size := by omega
            rw [Array.getD_eq_getD_getElem?]
            simp [this]
          · rw [if_neg h, getD_set_ne d (fun e => h e.symm)]
        refine ih _ (p ++ r) _ a' w' (by simp at hlen ⊢; omega) (by simpa using hsz) ?_ ?_ (hp.sub hsub) (fun y hy => hk y (hsub.subset hy)) ?_ h hr'
        · intro i
          rw [hset]
          constructor
          · rintro ⟨y, hy, rfl⟩
            have := (hrem y.i).1 ⟨y, hsub.subset hy, rfl⟩
            exact ⟨this.1, by rw [if_neg (hnd y hy)]; exact this.2⟩
          · rintro ⟨h1, h2⟩
            by_cases h : i = x.i
            · rw [if_pos h] at h2; cases h2
            · rw [if_neg h] at h2
              obtain ⟨y, hy, hyi⟩ := (hrem i).2 ⟨h1, h2⟩
              refine ⟨y, ?_, hyi⟩
              rcases List.mem_append.1 hy with hy | hy
              · exact List.mem_append_left _ hy
              · rcases List.mem_cons.1 hy with rfl | hy
                · exact absurd hyi.symm h
                · exact List.mem_append_right _ hy
        · intro i hli q hqb
          rw [hset] at hli ⊢
          by_cases hqi : q = x.i
          · rw [if_pos hqi]
          · rw [if_neg hqi]
            by_cases h : i = x.i
            · subst h; exact hanc q hqb
            · rw [if_neg h] at hli; exact hdown i hli q hqb
        · intro y hy l hl n c hc hn
          rw [St.get_upd] at hc
          have hnm : NoMent x.A y.A := by
            rcases List.mem_append.1 hy with hy | hy
            · exact (hpre y hy).2
            · exact hpost y hy
          rcases lastOf_some hc with ⟨hc, _⟩ | hc
          · exact hf y (hsub.subset hy) l hl n c hc hn
          · exact hnm l hl _ hc hn c rfl

theorem tr_of_trace {l : List Oper} {S S' : St} {L : List Ax} (h : Trace P ro ops l S L S') : ∀ k, Tr P ro ops ((l.zip L).mapIdx fun i x => ⟨k + i, x.1, x.2⟩) S S' ∧ l.length = L.length := by
  induction h with
  | nil S => intro k; exact ⟨.nil fun _ => rfl, rfl⟩
  | @cons o A S T r l S' ha hs hf he h ih =>
    intro k
    obtain ⟨h1, h2⟩ := ih (k + 1)
    refine ⟨?_, by simp [h2]⟩
    simp only [List.zip_cons_cons, List.mapIdx_cons]
    refine .cons ha hs ?_
    have : ((r.zip l).mapIdx fun i x => (⟨k + (i + 1), x.1, x.2⟩ : Item)) = ((r.zip l).mapIdx fun i x => (⟨k + 1 + i, x.1, x.2⟩ : Item)) := by
      congr 1; funext i x; congr 1; omega
    rw [this]
    exact h1.congr fun n => he n

theorem wpAnyIn_of_trace {Q : Exit → Act → World → Prop} {E : Env} {S S' : St} {L : List Ax} (h : Trace P ro ops ops.toList S L S') (hd : drawB ops.toList S L = true)
    (hk : KeepOK E L) (hpn : ∀ x, ro.pan = some x → ∀ a w, Rep E x.2 a w → Q (.panic x.1) a w) (hq : ∀ a w, Rep E S' a w → Q .normal a w) {a : Act} {w : World} (hr : Rep E S a w) :
    wpAnyIn (FW ro) 0 P .any ops Q ops.size (Array.replicate ops.size false) a w := by
  obtain ⟨htr, hlen⟩ := tr_of_trace h 0
  simp only [drawB, Bool.and_eq_true, List.all_eq_true] at hd
  have hget : ∀ x ∈ ((ops.toList.zip L).mapIdx fun i x => (⟨0 + i, x.1, x.2⟩ : Item)), ops.toList[x.i]? = some x.o ∧ L[x.i]? = some x.A := by
    intro x hx
    obtain ⟨i, hi, rfl⟩ := List.mem_mapIdx.1 hx
    simp only [List.length_zip] at hi
    have h1 : i < ops.toList.length := by omega
    have h2 : i < L.length := by omega
    simp only [Nat.zero_add, List.getElem_zip]
    exact ⟨by rw [List.getElem?_eq_getElem h1], by rw [List.getElem?_eq_getElem h2]⟩
  have hlen' : L.length = ops.size := by simpa using hlen.symm
  refine wpAnyIn_of_tr hd.1.1 hpn hq ops.size _ _ S a w (by simp [List.length_zip]; omega) (by simp) ?_ ?_ ⟨?_, ?_⟩ ?_ ?_ htr hr
  · intro i
    constructor
    · rintro ⟨x, hx, rfl⟩
      have := (hget x hx).1
      have hlt : x.i < ops.size := by
        have := List.getElem?_eq_some_iff.1 this
        simpa using this.1
      exact ⟨hlt, by simp [Array.getD_eq_getD_getElem?, hlt]⟩
    · rintro ⟨h1, _⟩
      have h2 : i < (ops.toList.zip L).length := by simp [List.length_zip]; have : L.length = ops.size := by simpa using hlen.symm
                                                    omega
      exact ⟨⟨0 + i, ((ops.toList.zip L)[i]).1, ((ops.toList.zip L)[i]).2⟩, List.mem_mapIdx.2 ⟨i, h2, rfl⟩, by simp⟩
  · intro i hi
    exfalso
    by_cases h : i < ops.size <;> simp [Array.getD_eq_getD_getElem?, h] at hi
  · intro x hx; have := (hget x hx).1; simpa using this
  · rw [List.pairwise_iff_getElem]
    intro i j hi hj hij
    simp only [List.length_mapIdx, List.length_zip] at hi hj
    simp only [List.getElem_mapIdx, List.getElem_zip, Nat.zero_add]
    refine ⟨hij, ?_⟩
    have := pairsB_at L 0 i j L[i] L[j] hd.1.2 (List.getElem?_eq_getElem _) (List.getElem?_eq_getElem _) hij
    simpa using this
  · intro x hx; exact hk x.A (List.mem_of_getElem? (hget x hx).2)
  · intro x hx; exact fresh_of (hd.2 x.A (List.mem_of_getElem? (hget x hx).2))

end Go.Proofs.YtmdfamnnnoieaaaDoor

/- The walk on abstract states: the rules for the forms of code; operations that only compute; functions' contracts. No program in sight. -/
namespace Go.Proofs.YtmdfamnnnoieaaaDoor
open Go
set_option linter.unusedVariables false
set_option linter.unusedSimpArgs false
variable {P : Program} {ro : Ro} {ops : Array Oper} {E : Env}

/-! A range over a function leaves a mark among the deferred calls: what an activation holds, marks and all; and that whatever an operation does may be seen from the world where it began. -/
abbrev mark (m : Nat) : Deferred := { target := .collected m, args := #[] }
def RepM (ro : Ro) (E : Env) (S : St) (a : Act) (w : World) : Prop :=
  ∃ ms : List Nat, (ro.marks = false → ms = []) ∧ a.defers = ms.map mark ++ E.dfs ∧ (ms.Nodup ∧ ∀ m ∈ ms, E.w0.heap.size ≤ m ∧ w.heap[m]? = some (.deferred (some []))) ∧ Rep E S { a with defers := E.dfs } w
theorem Rep.m {S : St} {a : Act} {w : World} (h : Rep E S a w) : RepM ro E S a w := by
  obtain ⟨V, M, ha, hw⟩ := h
  refine ⟨[], fun _ => rfl, by simpa using ha.defers, ⟨List.nodup_nil, fun m hm => (nomatch hm)⟩, V, M, ⟨ha.slots, ha.size, rfl⟩, hw⟩
theorem RepM.plain {S : St} {a : Act} {w : World} (h : RepM ro E S a w) (hm : ro.marks = false) : Rep E S a w := by
  obtain ⟨ms, h0, h1, _, V, M, ha, hw⟩ := h
  have := h0 hm
  subst this
  exact ⟨V, M, ⟨ha.slots, ha.size, by simpa using h1⟩, hw⟩
theorem RepM.weaken {S S' : St} {a : Act} {w : World} (h : RepM ro E S a w) (hle : S'.le S) : RepM ro E S' a w := by
  obtain ⟨ms, h0, h1, h2, h3⟩ := h
  exact ⟨ms, h0, h1, h2, h3.weaken hle⟩

def livesOf (V : Vals) (S : St) : List Nat := ((S.map fun p => p.1 / 2).filter fun l => match S.get (bk l), V.κ l with | some (.blk _), some _ => true | _, _ => false).map V.ρ
theorem mem_lives {V : Vals} {S : St} {b : Nat} : b ∈ livesOf V S ↔ ∃ l, HasB V S l ∧ V.ρ l = b := by
  simp only [livesOf, List.mem_map, List.mem_filter]
  constructor
  · rintro ⟨l, ⟨_, h⟩, rfl⟩
    refine ⟨l, ?_, rfl⟩
    split at h
    · rename_i B k h1 h2; exact ⟨⟨B, h1⟩, by rw [h2]; simp⟩
    · cases h
  · rintro ⟨l, ⟨⟨B, hB⟩, hk⟩, rfl⟩
    refine ⟨l, ⟨⟨_, St.mem_of_get hB, by unfold bk; omega⟩, ?_⟩, rfl⟩
    cases hx : V.κ l with
    | none => exact absurd hx hk
    | some k => simp [hB]

def Env.at_ (E : Env) (S : St) (V : Vals) (M : Mem) (w : World) (ds : List Deferred) : Env := { w0 := w, passed := livesOf V S, M0 := M, V0 := V, keep := E.keep, nt := E.nt, dfs := ds }
theorem RepW.base {S : St} {V : Vals} {M : Mem} {w : World} (h : RepW E S V M w) (ds : List Deferred) : RepW (E.at_ S V M w ds) S V M w :=
  { blks := h.blks, inj := h.inj, sep := h.sep, fresh := fun l hl => .inr (mem_lives.2 ⟨l, hl, rfl⟩), bd := h.bd, mem := h.mem, mle := Mem.le_refl M, glb := h.gl, mnew := fun b o h => .inl h, keep := fun l _ => ⟨rfl, rfl⟩
    frame := ⟨rfl, rfl, rfl, Nat.le_refl _, fun _ _ _ => rfl⟩ }
/-- Two ways on end. -/
theorem RepW.comp {E2 : Env} {S S' : St} {V V' : Vals} {M M' : Mem} {w w' : World} (h : RepW E S V M w) (h2 : RepW E2 S' V' M' w') (e1 : E2.w0 = w) (e2 : E2.M0 = M) (e3 : E2.V0 = V) (e4 : ∀ l ∈ E.keep, l ∈ E2.keep) (e5 : ∀ b ∈ E2.passed, ∃ l, HasB V S l ∧ V.ρ l = b) : RepW E S' V' M' w' := by
  subst e1; subst e2; subst e3
  have hf := h2.frame
  have hp : ∀ b ∈ E2.passed, E.w0.heap.size ≤ b ∨ b ∈ E.passed := fun b hb => by
    obtain ⟨l, hl, rfl⟩ := e5 b hb
    exact h.fresh l hl
  exact
    { blks := h2.blks, inj := h2.inj, sep := h2.sep
      fresh := fun l hl => by
        rcases h2.fresh l hl with h3 | h3
        · exact .inl (Nat.le_trans h.frame.size h3)
        · exact hp _ h3
      bd := h2.bd, mem := h2.mem, mle := Mem.le_trans h.mle h2.mle, glb := h.glb
      mnew := fun b o hb => by
        rcases h2.mnew b o hb with h3 | h3 | h3
        · exact h.mnew b o h3
        · exact .inr (.inl (Nat.le_trans h.frame.size h3))
        · exact .inr (hp _ h3)
      keep := fun l hl => by
        have a := h2.keep l (e4 l hl)
        have b := h.keep l hl
        exact ⟨a.1.trans b.1, a.2.trans b.2⟩
      frame := ⟨hf.os.trans h.frame.os, hf.tape.trans h.frame.tape, hf.output.trans h.frame.output, Nat.le_trans h.frame.size hf.size, fun b hb hn => (hf.block b (Nat.lt_of_lt_of_le hb h.frame.size) fun hb' => by
        rcases hp b hb' with h3 | h3
        · omega
        · exact hn h3).trans (h.frame.block b hb hn)⟩ }

/-- From where it stands on: an environment of its own. -/
theorem RepM.from {S : St} {a : Act} {w : World} (h : RepM ro E S a w) : ∃ E2 : Env, E2.keep = E.keep ∧ E2.nt = E.nt ∧ Rep E2 S a w ∧ ∀ S' a' w', Rep E2 S' a' w' → RepM ro E S' a' w' := by
  obtain ⟨ms, h0, h1, h2, V, M, ha, hw⟩ := h
  refine ⟨E.at_ S V M w a.defers, rfl, rfl, ⟨V, M, ⟨ha.slots, ha.size, rfl⟩, hw.base _⟩, ?_⟩
  rintro S' a' w' ⟨V', M', ha', hw'⟩
  refine ⟨ms, h0, ha'.defers.trans h1, ⟨h2.1, fun m hm => ⟨(h2.2 m hm).1, ?_⟩⟩, V', M', ⟨ha'.slots, ha'.size, rfl⟩, hw.comp hw' rfl rfl rfl (fun _ h => h) fun b hb => mem_lives.1 hb⟩
  have h3 := (h2.2 m hm).2
  refine (hw'.frame.block m (Array.getElem?_eq_some_iff.1 h3).1 fun hb => ?_).trans h3
  obtain ⟨l, ⟨⟨B, hB⟩, hk⟩, he⟩ := mem_lives.1 hb
  have hblk := hw.blks l B hB
  cases B with
  | cells cs => obtain ⟨_, vs, t, hh, _⟩ := hblk; rw [he, h3] at hh; cases hh
  | data ds => obtain ⟨_, vs, t, hh, _⟩ := hblk; rw [he, h3] at hh; cases hh
  | cols n len cs => obtain ⟨_, vs, t, hh, _⟩ := hblk; rw [he, h3] at hh; cases hh
  | app n len cs =>
    obtain ⟨_, _, hh⟩ := hblk
    split at hh
    · rename_i h; exact absurd h hk
    · obtain ⟨_, vs, t, hh, _⟩ := hh; rw [he, h3] at hh; cases hh
  | lp h' ts => obtain ⟨_, fn, tmps, d, hh, _⟩ := hblk; rw [he, h3] at hh; cases hh
  | appv cs =>
    have hblk : appvAt V M w l cs := hblk
    unfold appvAt at hblk
    split at hblk
    · rename_i h; exact absurd h hk
    · obtain ⟨_, vs, t, hh, _⟩ := hblk; rw [he, h3] at hh; cases hh
  | keys ks => obtain ⟨_, es, c, hh, _⟩ := hblk; rw [he, h3] at hh; cases hh
theorem KeepOK.env {E2 : Env} {L : List Ax} (h : KeepOK E L) (h1 : E2.keep = E.keep) (h2 : E2.nt = E.nt) : KeepOK E2 L := fun A hA => ⟨by rw [h1]; exact (h A hA).1, by rw [h2]; exact (h A hA).2⟩

/-- What holds at an exit: the walk's own word; or a panic that the frame lets out. -/
def WPost (ro : Ro) (E : Env) (Q : Exit → St → Prop) : Exit → Act → World → Prop := fun e a w => (∃ S', Q e S' ∧ RepM ro E S' a w) ∨ ∃ x, ro.pan = some x ∧ e = .panic x.1 ∧ RepM ro E x.2 a w
def WPA (P : Program) (ro : Ro) (E : Env) (c : Code) (S : St) (Q : Exit → St → Prop) : Prop :=
  ∀ a w, RepM ro E S a w → c.wpIn (FW ro) 0 P (WPost ro E Q) a w

theorem WPost.mono {ro : Ro} {E : Env} {Q Q' : Exit → St → Prop} (hq : ∀ e S, Q e S → Q' e S) {e : Exit} {a : Act} {w : World} : WPost ro E Q e a w → WPost ro E Q' e a w
  | .inl ⟨S', q, r⟩ => .inl ⟨S', hq _ _ q, r⟩
  | .inr h => .inr h
theorem WPA.mono {c : Code} {S : St} {Q Q' : Exit → St → Prop} (h : WPA P ro E c S Q) (hq : ∀ e S, Q e S → Q' e S) : WPA P ro E c S Q' :=
  fun a w hr => wpIn_mono (h a w hr) fun e a w => WPost.mono hq
theorem WPA.weaken {c : Code} {S T : St} {Q : Exit → St → Prop} (h : WPA P ro E c T Q) (hle : T.le S) : WPA P ro E c S Q :=
  fun a w hr => h a w (hr.weaken hle)
theorem WPA.skip {S : St} {Q : Exit → St → Prop} (h : Q .normal S) : WPA P ro E .skip S Q := fun _ _ hr => wpIn_skip (.inl ⟨S, h, hr⟩)
theorem WPA.label {S : St} {Q : Exit → St → Prop} {l : Nat} (h : Q .normal S) : WPA P ro E (.label l) S Q := fun _ _ hr => wpIn_label (.inl ⟨S, h, hr⟩)
theorem WPA.exit {S : St} {Q : Exit → St → Prop} {l : Nat} (h : Q (.exit l) S) : WPA P ro E (.exit l) S Q := fun _ _ hr => wpIn_exit (.inl ⟨S, h, hr⟩)
theorem WPA.ret {S : St} {Q : Exit → St → Prop} (h : Q .ret S) : WPA P ro E .ret S Q := fun _ _ hr => wpIn_ret (.inl ⟨S, h, hr⟩)

def thenQ (K : St → Prop) (Q : Exit → St → Prop) : Exit → St → Prop
  | .normal, S => K S
  | e, S => Q e S
theorem WPA.seq {x y : Code} {S : St} {Q : Exit → St → Prop} (h : WPA P ro E x S (thenQ (fun S' => WPA P ro E y S' Q) Q)) : WPA P ro E (.seq x y) S Q :=
  fun a w hr => wpIn_seq (wpIn_mono (h a w hr) fun e a w hp => by
    rcases hp with ⟨S', q, r⟩ | ⟨x, hp, rfl, r⟩
    · cases e with
      | normal => exact q a w r
      | _ => exact .inl ⟨S', q, r⟩
    · exact .inr ⟨x, hp, rfl, r⟩)
def blockQ (id : Nat) (Q : Exit → St → Prop) : Exit → St → Prop
  | .exit i, S => bif Nat.beq i id then Q .normal S else Q (.exit i) S
  | e, S => Q e S
theorem WPA.block {x : Code} {id : Nat} {S : St} {Q : Exit → St → Prop} (h : WPA P ro E x S (blockQ id Q)) : WPA P ro E (.block id x) S Q :=
  fun a w hr => wpIn_block (wpIn_mono (h a w hr) fun e a w hp => by
    rcases hp with ⟨S', q, r⟩ | ⟨x, hp, rfl, r⟩
    · cases e with
      | exit i =>
        simp only [Exit.inBlock]
        simp only [blockQ, nbeq] at q
        split
        · rename_i hi; simp only [hi, decide_true, cond_true] at q; exact .inl ⟨S', q, r⟩
        · rename_i hi; simp only [hi, decide_false, cond_false] at q; exact .inl ⟨S', q, r⟩
      | _ => exact .inl ⟨S', q, r⟩
    · exact .inr ⟨x, hp, rfl, r⟩)

/-! Operands. -/
def D.ofV : Value → D
  | .agg cs => .agg (cs.toList.map .v)
  | u => .v u
theorem den_ofV (M : Mem) (v : Value) : DenD M (D.ofV v) v := by
  cases v with
  | agg cs =>
    simp only [D.ofV]
    have := DenD.agg (M := M) (cs.toList.map .v) cs.toList (by simp) (by
      intro j x y hx hy
      simp only [List.getElem?_map, Option.map_eq_some_iff] at hx
      obtain ⟨z, hz, rfl⟩ := hx
      rw [hy] at hz
      injection hz with hz
      subst hz
      exact .v _)
    simpa using this
  | _ => exact .v _

def evalA (S : St) : Operand → Option AV
  | .tmp t => match S.get (sl t) with
    | some (.av x) => some x
    | _ => none
  | .const v => some (.d (D.ofV v))
  | .func f => some (.fn f [])
  | .global g => some (.d (.v (.pointer (some ⟨g, 0, none⟩))))

theorem den_eval {S : St} {V : Vals} {M : Mem} {a : Act} {x : Operand} {y : AV} (hs : ∀ t y, x = .tmp t → S.get (sl t) = some (.av y) → ∃ v, a.tmps[t]? = some v ∧ Den V M y v) (h : evalA S x = some y) : Den V M y (a.eval x) := by
  cases x with
  | tmp t =>
    simp only [evalA] at h
    split at h
    · rename_i z hz
      injection h with h; subst h
      obtain ⟨v, hv, hd⟩ := hs t _ rfl hz
      simp only [Act.eval, Array.getD_eq_getD_getElem?, hv, Option.getD_some]
      exact hd
    · cases h
  | const v => simp only [evalA] at h; injection h with h; subst h; exact .d _ _ (den_ofV M v)
  | func f => simp only [evalA] at h; injection h with h; subst h; exact .fn f [] [] rfl (fun j x y hx _ => by simp at hx)
  | global g => simp only [evalA] at h; injection h with h; subst h; exact .d _ _ (.v _)

/-- An operand's value where the operation's guard c holds. -/
inductive Ev (S : St) (c : Bool) (x : Operand) : AV → Prop
  | plain {y : AV} (h : evalA S x = some y) : Ev S c x y
  | gd {c' : Bool} {y : AV} (h : evalA S x = some (.gd c' y)) (hc : c = true → c' = true) : Ev S c x y

/-- What an operation may take for granted: what its operands are; what the blocks that it reads hold. -/
structure Given (E : Env) (S : St) (o : Oper) (bl : List Nat) (c : Bool) (V : Vals) (M : Mem) (a : Act) (w : World) : Prop where
  opd : ∀ x ∈ o.op.operands, ∀ y, Ev S c x y → Den V M y (a.eval x)
  blk : ∀ l ∈ bl, ∀ B, S.get (bk l) = some (.blk B) → BlkAt V M w l B
  mem : ∀ b o v, M b o = some v → w.cell? ⟨b, o, none⟩ = some v
  glb : Glob M

/-- An operation that hands back one value and leaves the world alone. -/
def Pure (P : Program) (S : St) (bl : List Nat) (o : Oper) (c : Bool) (x : AV) : Prop :=
  (∀ d, o.op ≠ .defer d) ∧ ∀ E V M a w, Given E S o bl c V M a w → c = true → ∃ v, (execOp a.eval o).run P w = .ok (.value v) w ∧ Den V M x v

def opNames (o : Oper) : List Nat := o.op.operands.toList.filterMap fun | .tmp t => some (sl t) | _ => none
theorem mem_opNames {o : Oper} {t : Nat} (h : Operand.tmp t ∈ o.op.operands) : sl t ∈ opNames o := by
  simp only [opNames, List.mem_filterMap]
  exact ⟨.tmp t, by simpa using h, rfl⟩

/-- A guard's outcome: the Bool under which the operation is carried out. -/
def guardOf (w : Bool) : AV → Option Bool
  | .d (.v (.bool g)) => some (g == w)
  | .gd c (.d (.v (.bool g))) => some (c && (g == w))
  | _ => none

def guardIn (ops : Array Oper) (S : St) (o : Oper) : Option (List Nat × Bool) :=
  match o.guard with
  | none => some ([], true)
  | some (j, w) => match (ops[j]?).bind (·.dst) with
    | none => none
    | some t => match S.get (sl t) with
      | some (.av x) => (guardOf w x).map fun c => ([sl t], c)
      | _ => none

theorem given_of {S S0 : St} {V : Vals} {M : Mem} {a : Act} {w : World} {o : Oper} {bl : List Nat} {c : Bool} {rn : List Nat} (hag : ∀ n ∈ rn, S.get n = S0.get n) (h1 : ∀ n ∈ opNames o, n ∈ rn) (h2 : ∀ l ∈ bl, bk l ∈ rn)
    (hc : c = true) (ha : RepA E S V M a) (hw : RepW E S V M w) : Given E S0 o bl c V M a w where
  opd := fun x hx y hy => by
    have key : ∀ t y, x = .tmp t → S0.get (sl t) = some (.av y) → ∃ v, a.tmps[t]? = some v ∧ Den V M y v := fun t y e h => by
      subst e
      rw [← hag _ (h1 _ (mem_opNames hx))] at h
      exact ha.slots t y h
    cases hy with
    | plain h => exact den_eval key h
    | gd h hc' =>
      have := den_eval key h
      cases this with
      | gd _ _ _ h _ => exact h (hc' hc)
  blk := fun l hl B hB => hw.blks l B (by rw [hag _ (h2 l hl)]; exact hB)
  mem := hw.mem
  glb := hw.gl

theorem sl_inj {a b : Nat} (h : sl a = sl b) : a = b := by unfold sl at h; omega
theorem sl_ne_bk (a b : Nat) : sl a ≠ bk b := by unfold sl bk; omega

theorem upd_one (S : St) (n : Nat) (c : Option Cont) (m : Nat) : (S.upd [(n, c)]).get m = if n = m then c else S.get m := by
  rw [St.get_upd]; rfl

theorem repW_slot {S : St} {V : Vals} {M : Mem} {w : World} (h : RepW E S V M w) (t : Nat) (x : AV) : RepW E (S.upd [(sl t, some (.av x))]) V M w := by
  have hb : ∀ l, (S.upd [(sl t, some (.av x))]).get (bk l) = S.get (bk l) := fun l => by rw [upd_one, if_neg (sl_ne_bk t l)]
  have hh : ∀ l, HasB V (S.upd [(sl t, some (.av x))]) l → HasB V S l := fun l hl => ⟨by simpa only [hb] using hl.1, hl.2⟩
  exact { blks := fun l B e => h.blks l B (by rwa [hb] at e), inj := fun l l' a b => h.inj l l' (hh l a) (hh l' b), sep := fun l a => h.sep l (hh l a), fresh := fun l a => h.fresh l (hh l a), bd := fun l a => h.bd l (hh l a),
          mem := h.mem, mle := h.mle, glb := h.glb, mnew := h.mnew, keep := h.keep, frame := h.frame }

theorem repA_slot {S : St} {V : Vals} {M : Mem} {a : Act} (h : RepA E S V M a) (t : Nat) (x : AV) (v : Value) (ht : t < E.nt) (hd : Den V M x v) : RepA E (S.upd [(sl t, some (.av x))]) V M (a.put (some t) v) where
  slots := fun s y e => by
    rw [upd_one] at e
    by_cases hs : t = s
    · subst hs
      rw [if_pos rfl] at e
      injection e with e; injection e with e; subst e
      exact ⟨v, by simp [Act.put, h.size, ht], hd⟩
    · rw [if_neg (fun e => hs (sl_inj e))] at e
      obtain ⟨u, hu, hdu⟩ := h.slots s y e
      exact ⟨u, by simp [Act.put, hs, hu], hdu⟩
  size := by simp [Act.put, h.size]
  defers := h.defers

theorem about_fw (o : Oper) (a : Act) (w : World) : ∀ f, o.about P w a.eval = some f → (FW ro).fn f := fun f _ => fw_fn ro f

theorem wpIn_of_value {o : Oper} {a : Act} {w w' : World} {v : Value} {K : Act → World → Prop} {Q : Exit → Act → World → Prop} (hd : ∀ d, o.op ≠ .defer d)
    (hr : (execOp a.eval o).run P w = .ok (.value v) w') (hk : K (a.put o.dst v) w') : o.wpIn (FW ro) 0 P a w K Q := by
  refine ⟨about_fw o a w, ?_⟩
  rw [Oper.semAt_eq _ _ _ hd, hr]
  exact hk
theorem wpIn_of_skip {o : Oper} {a : Act} {w w' : World} {K : Act → World → Prop} {Q : Exit → Act → World → Prop} (hd : ∀ d, o.op ≠ .defer d)
    (hr : (execOp a.eval o).run P w = .ok .skip w') (hk : K (a.put o.dst undef) w') : o.wpIn (FW ro) 0 P a w K Q := by
  refine ⟨about_fw o a w, ?_⟩
  rw [Oper.semAt_eq _ _ _ hd, hr]
  exact hk

def wrapGd (o : Oper) (c : Bool) (x : AV) : AV := match o.guard with | none => x | some _ => .gd c x

/-- A guard decides whether the operation is carried out. -/
theorem wanted_of {S S0 : St} {V : Vals} {M : Mem} {a : Act} {o : Oper} {g : List Nat} {c : Bool} {rn : List Nat} (hag : ∀ n ∈ rn, S.get n = S0.get n) (hg : guardIn ops S0 o = some (g, c)) (h1 : ∀ n ∈ g, n ∈ rn)
    (ha : RepA E S V M a) : Region.wanted o (yielded ops a.tmps) = c := by
  unfold guardIn at hg
  unfold Region.wanted
  split at hg
  · rename_i h; rw [h]; injection hg with hg; injection hg with _ h2
  · rename_i j w h
    rw [h]
    split at hg
    · cases hg
    · rename_i t ht
      split at hg
      · rename_i x hx
        simp only [Option.map_eq_some_iff] at hg
        obtain ⟨c', hc', he⟩ := hg
        injection he with he1 he2
        subst he1; subst he2
        rw [← hag _ (h1 _ (by simp))] at hx
        obtain ⟨v, hv, hd⟩ := ha.slots t x hx
        have hy : yielded ops a.tmps j = (match (some v : Option Value) with | some (.bool b) => some b | _ => none) := by
          unfold yielded; rw [ht]; simp only [Option.bind_some, hv]; cases v <;> rfl
        simp only [hy]
        cases x with
        | d y =>
          cases y with
          | v z =>
            cases z with
            | bool b =>
              simp only [guardOf, Option.some.injEq] at hc'
              cases hd with
              | d _ _ h => cases h with | v _ => rw [← hc']; simp
            | _ => simp [guardOf] at hc'
          | _ => simp [guardOf] at hc'
        | gd e y =>
          cases y with
          | d y =>
            cases y with
            | v z =>
              cases z with
              | bool b =>
                simp only [guardOf, Option.some.injEq] at hc'
                cases hd with
                | gd _ _ _ h hu =>
                  cases e with
                  | true =>
                    have := h rfl
                    cases this with
                    | d _ _ h => cases h with | v _ => rw [← hc']; simp
                  | false => rw [hu rfl, ← hc']; simp [undef]
              | _ => simp [guardOf] at hc'
            | _ => simp [guardOf] at hc'
          | _ => simp [guardOf] at hc'
        | _ => simp [guardOf] at hc'
      · cases hg

theorem axOp_pure {S0 : St} {o : Oper} {t : Nat} {bl g : List Nat} {c : Bool} {x : AV} (hdst : o.dst = some t) (hg : guardIn ops S0 o = some (g, c)) (hp : Pure P S0 bl o c x) :
    AxOp P ro ops o ⟨opNames o ++ g ++ bl.map bk, S0, [(sl t, some (.av (wrapGd o c x)))], []⟩ := by
  intro E S a w hs _ hok ⟨V, M, ha, hw⟩ Q hpn
  have ht : t < E.nt := hok.2 t (by simp [Ax.names])
  have hwant := wanted_of (E := E) hs hg (fun n hn => by simp [hn]) ha
  unfold stepIn
  cases c with
  | true =>
    rw [if_pos hwant]
    obtain ⟨v, hr, hd⟩ := hp.2 E V M a w (given_of hs (fun n hn => by simp [hn]) (fun l hl => by simp only [List.mem_append, List.mem_map]; right; exact ⟨l, hl, rfl⟩) rfl ha hw) rfl
    refine wpIn_of_value hp.1 hr ?_
    rw [hdst]
    refine ⟨V, M, repA_slot ha t _ v ht ?_, repW_slot hw t _⟩
    unfold wrapGd
    split
    · exact hd
    · exact .gd _ _ _ (fun _ => hd) (fun h => by cases h)
  | false =>
    rw [if_neg (by rw [hwant]; simp)]
    refine ⟨about_fw o a w, ?_⟩
    rw [hdst]
    have hw' : wrapGd o false x = .gd false x := by
      unfold wrapGd
      split
      · rename_i h; unfold guardIn at hg; rw [h] at hg; simp at hg
      · rfl
    rw [hw']
    exact ⟨V, M, repA_slot ha t _ undef ht (.gd _ _ _ (fun h => by cases h) (fun _ => rfl)), repW_slot hw t _⟩

theorem Trace.pure {S0 S' : St} {o : Oper} {r : List Oper} {L : List Ax} {t : Nat} {x : AV} (bl : List Nat) {g : List Nat} {c : Bool} (hp : Pure P S0 bl o c x) (hdst : o.dst = some t) (hg : guardIn ops S0 o = some (g, c))
    (h : Trace P ro ops r ((sl t, .av (wrapGd o c x)) :: S0) L S') :
    Trace P ro ops (o :: r) S0 (⟨opNames o ++ g ++ bl.map bk, S0, [(sl t, some (.av (wrapGd o c x)))], []⟩ :: L) S' :=
  .cons (axOp_pure hdst hg hp) (fun _ _ => rfl) (fun l hl => by cases hl) (cons_upd S0 _ _) h

/-! Regions. -/
theorem WPA.region {id : Nat} {S S' : St} {L : List Ax} {Q : Exit → St → Prop} (h : Trace P ro ops ops.toList S L S') (hk : KeepOK E L) (hq : Q .normal S') : WPA P ro E (.region id ops false) S Q := by
  intro a w hr
  obtain ⟨E2, e1, e2, hr2, back⟩ := hr.from
  refine wpIn_region ?_
  have := wpOpsIn_of_trace (Q := WPost ro E Q) h (hk.env e1 e2) (fun x hp a w hr => .inr ⟨x, hp, rfl, back _ _ _ hr⟩) (fun a w hr => .inl ⟨S', hq, back _ _ _ hr⟩) 0 (fun j => by simp) a w hr2
  rw [List.range_eq_range', ← Array.length_toList]
  exact this
theorem WPA.draw {id : Nat} {S S' : St} {L : List Ax} {Q : Exit → St → Prop} (hm : P.follows .mixedOrders = true) (h : Trace P ro ops ops.toList S L S') (hd : drawB ops.toList S L = true) (hk : KeepOK E L) (hq : Q .normal S') :
    WPA P ro E (.region id ops true) S Q := by
  intro a w hr
  obtain ⟨E2, e1, e2, hr2, back⟩ := hr.from
  exact wpIn_region_any hm (wpAnyIn_of_trace h hd (hk.env e1 e2) (fun x hp a w hr => .inr ⟨x, hp, rfl, back _ _ _ hr⟩) (fun a w hr => .inl ⟨S', hq, back _ _ _ hr⟩) (hr2.drawn _))

theorem WPA.cond {c : Operand} {x y : Code} {S : St} {Q : Exit → St → Prop} {t : Bool} (hc : evalA S c = some (.d (.v (.bool t)))) (h1 : t = true → WPA P ro E x S Q) (h2 : t = false → WPA P ro E y S Q) : WPA P ro E (.cond c x y) S Q := by
  intro a w hr
  have hr0 := hr
  obtain ⟨ms, _, _, _, V, M, ha, hw⟩ := hr
  have hd := den_eval (fun s y _ h => ha.slots s y h) hc
  have he : Act.eval { a with defers := E.dfs } c = a.eval c := by cases c <;> rfl
  rw [he] at hd
  have : a.eval c = .bool t := by
    generalize a.eval c = u at hd
    cases hd with | d _ _ h => cases h with | v _ => rfl
  exact wpIn_cond_split this (fun h => h1 h a w hr0) (fun h => h2 h a w hr0)

/-- A loop: 'Inv x' at each round's head, a measure that each round lowers. -/
theorem WPA.loop {σ : Type} {c : Code} {S : St} {Q : Exit → St → Prop} (Inv : σ → St) (J : σ → Prop) (m : σ → Nat) (x₀ : σ) (h₀ : (Inv x₀).le S) (j₀ : J x₀)
    (round : ∀ x, J x → WPA P ro E c (Inv x) (thenQ (fun S' => ∃ y, J y ∧ m y < m x ∧ (Inv y).le S') Q)) : WPA P ro E (.loop c) S Q := by
  intro a w hr
  let p : Act → World → Nat → Prop := fun a w n => ∃ x, J x ∧ m x = n ∧ RepM ro E (Inv x) a w
  refine wpIn_loop (fun a w => ∃ n, p a w n) (fun a w => leastOf (p a w)) ⟨m x₀, x₀, j₀, rfl, hr.weaken h₀⟩ ?_
  intro a w hI
  obtain ⟨⟨x, hx, hn, hrx⟩, hmin⟩ := leastOf_spec hI
  refine wpIn_mono (round x hx a w hrx) ?_
  rintro e a' w' (⟨S', q, r⟩ | ⟨x, hp, rfl, r⟩)
  · cases e with
    | normal =>
      obtain ⟨y, hy, hlt, hle⟩ := q
      have hp : p a' w' (m y) := ⟨y, hy, rfl, r.weaken hle⟩
      refine ⟨⟨m y, hp⟩, ?_⟩
      have h1 := (leastOf_spec ⟨m y, hp⟩).2 (m y) hp
      show leastOf (p a' w') < leastOf (p a w)
      omega
    | _ => exact .inl ⟨S', q, r⟩
  · exact .inr ⟨x, hp, rfl, r⟩

end Go.Proofs.YtmdfamnnnoieaaaDoor

/- Operations that only compute, on abstract values: numbers, strings, parts of structs, closures. No program in sight. -/
namespace Go.Proofs.YtmdfamnnnoieaaaDoor
open Go
set_option linter.unusedVariables false
set_option linter.unusedSimpArgs false
variable {P : Program} {S : St} {c : Bool}

abbrev iv (k : IntKind) (n : Int) : AV := .d (.v (.int k n))
abbrev bv (b : Bool) : AV := .d (.v (.bool b))
abbrev sv (s : ByteArray) : AV := .d (.v (.string s))
abbrev nilS : AV := .d (.v (.slice none 0 0))

theorem den_v {V : Vals} {M : Mem} {u v : Value} (h : Den V M (.d (.v u)) v) : v = u := by
  cases h with | d _ _ h => cases h; rfl

theorem Given.val {E : Env} {V : Vals} {M : Mem} {a : Act} {w : World} {o : Oper} {bl : List Nat} (h : Given E S o bl c V M a w) {x : Operand} {u : Value} (hx : x ∈ o.op.operands) (e : Ev S c x (.d (.v u))) : a.eval x = u :=
  den_v (h.opd x hx _ e)

theorem IntKind.wrap_in (k : IntKind) (n : Int) (h : k.min ≤ n ∧ n ≤ k.max) : k.wrap n = n := by
  obtain ⟨h1, h2⟩ := h
  unfold IntKind.wrap
  cases k <;> simp [IntKind.min, IntKind.max, IntKind.signed, IntKind.bits] at * <;> first | (split <;> omega) | omega

theorem bd64 {r : Int} (h : -9223372036854775808 ≤ r ∧ r ≤ 9223372036854775807) : IntKind.min .i64 ≤ r ∧ r ≤ IntKind.max .i64 := by
  simpa [IntKind.min, IntKind.max, IntKind.signed, IntKind.bits] using h

section
variable {o : Oper} {x y z : Operand} {d : Option Tmp} {ty t t' : TypeId} {pos : String} {af : Array Edge} {gd : Option (Nat × Bool)}

theorem Pure.move {r : AV} (e : Ev S c x r) : Pure P S [] ⟨d, .move x, ty, pos, af, gd⟩ c r :=
  ⟨(fun _ h => nomatch h), fun E V M a w h _ => ⟨a.eval x, rfl, h.opd x (by simp [Op.operands]) _ e⟩⟩
theorem Pure.assign {r : AV} (e : Ev S c x r) : Pure P S [] ⟨d, .assign x, ty, pos, af, gd⟩ c r :=
  ⟨(fun _ h => nomatch h), fun E V M a w h _ => ⟨a.eval x, rfl, h.opd x (by simp [Op.operands]) _ e⟩⟩

theorem Pure.pick {b p q : Bool} (e1 : Ev S c x (bv b)) (e2 : Ev S (c && b) y (bv p)) (e3 : Ev S (c && !b) z (bv q)) : Pure P S [] ⟨d, .pick x y z, ty, pos, af, gd⟩ c (bv (bif b then p else q)) := by
  refine ⟨(fun _ h => nomatch h), fun E V M a w h hc => ?_⟩
  have h1 := h.val (by simp [Op.operands]) e1
  subst hc
  cases b with
  | true =>
    have h2 : a.eval y = .bool p := h.val (by simp [Op.operands]) (by simpa using e2)
    generalize a.eval = ρ at *
    exact ⟨.bool p, by simp [execOp, h1, h2, asBool, go_sem], .d _ _ (.v _)⟩
  | false =>
    have h2 : a.eval z = .bool q := h.val (by simp [Op.operands]) (by simpa using e3)
    generalize a.eval = ρ at *
    exact ⟨.bool q, by simp [execOp, h1, h2, asBool, go_sem], .d _ _ (.v _)⟩

def arith : BinOp → Int → Int → Option Int
  | .add, m, n => some (m + n)
  | .sub, m, n => some (m - n)
  | .mul, m, n => some (m * n)
  | _, _, _ => none
/-- + - *, whatever comes. -/
theorem Pure.arithW {op : BinOp} {k : IntKind} {m n r : Int} (e1 : Ev S c x (iv k m)) (e2 : Ev S c y (iv k n)) (hr : arith op m n = some r) : Pure P S [] ⟨d, .binOp op t x y t', ty, pos, af, gd⟩ c (iv k (k.wrap r)) := by
  refine ⟨(fun _ h => nomatch h), fun E V M a w h hc => ?_⟩
  have h1 := h.val (by simp [Op.operands]) e1
  have h2 := h.val (by simp [Op.operands]) e2
  generalize a.eval = ρ at *
  refine ⟨_, ?_, .d _ _ (.v _)⟩
  cases op <;> simp only [arith, reduceCtorEq, Option.some.injEq] at hr <;> subst hr <;> simp [execOp, h1, h2, eqGuard, binOp, Op.intArith, go_sem]
/-- + - *, within the kind's bounds. -/
theorem Pure.arith {op : BinOp} {k : IntKind} {m n r : Int} (e1 : Ev S c x (iv k m)) (e2 : Ev S c y (iv k n)) (hr : arith op m n = some r) (hb : c = true → k.min ≤ r ∧ r ≤ k.max) : Pure P S [] ⟨d, .binOp op t x y t', ty, pos, af, gd⟩ c (iv k r) := by
  have := Pure.arithW (P := P) (d := d) (t := t) (t' := t') (ty := ty) (pos := pos) (af := af) (gd := gd) e1 e2 hr
  refine ⟨this.1, fun E V M a w h hc => ?_⟩
  have h2 := this.2 E V M a w h hc
  rwa [IntKind.wrap_in k r (hb hc)] at h2

def icmp : BinOp → Int → Int → Option Bool
  | .eql, m, n => some (decide (m = n))
  | .neq, m, n => some (!decide (m = n))
  | .lss, m, n => some (decide (m < n))
  | .leq, m, n => some (decide (m ≤ n))
  | .gtr, m, n => some (decide (n < m))
  | .geq, m, n => some (decide (n ≤ m))
  | _, _, _ => none
theorem Pure.cmp {op : BinOp} {k : IntKind} {m n : Int} {r : Bool} (e1 : Ev S c x (iv k m)) (e2 : Ev S c y (iv k n)) (hr : icmp op m n = some r) : Pure P S [] ⟨d, .binOp op t x y t', ty, pos, af, gd⟩ c (bv r) := by
  refine ⟨(fun _ h => nomatch h), fun E V M a w h hc => ?_⟩
  have h1 := h.val (by simp [Op.operands]) e1
  have h2 := h.val (by simp [Op.operands]) e2
  generalize a.eval = ρ at *
  refine ⟨_, ?_, .d _ _ (.v _)⟩
  cases op <;> simp only [icmp, reduceCtorEq, Option.some.injEq] at hr <;> subst hr <;> simp [execOp, h1, h2, eqGuard, binOp, Op.intCmp, go_sem, bne] <;> rfl

def ibits : BinOp → (k : IntKind) → Int → Int → Option Int
  | .and, k, m, n => some (k.wrap (BitVec.ofInt k.bits m &&& BitVec.ofInt k.bits n).toNat)
  | .or, k, m, n => some (k.wrap (BitVec.ofInt k.bits m ||| BitVec.ofInt k.bits n).toNat)
  | .xor, k, m, n => some (k.wrap (BitVec.ofInt k.bits m ^^^ BitVec.ofInt k.bits n).toNat)
  | .andNot, k, m, n => some (k.wrap (BitVec.ofInt k.bits m &&& ~~~ BitVec.ofInt k.bits n).toNat)
  | _, _, _, _ => none
theorem Pure.bits {op : BinOp} {k : IntKind} {m n r : Int} (e1 : Ev S c x (iv k m)) (e2 : Ev S c y (iv k n)) (hr : ibits op k m n = some r) : Pure P S [] ⟨d, .binOp op t x y t', ty, pos, af, gd⟩ c (iv k r) := by
  refine ⟨(fun _ h => nomatch h), fun E V M a w h hc => ?_⟩
  have h1 := h.val (by simp [Op.operands]) e1
  have h2 := h.val (by simp [Op.operands]) e2
  generalize a.eval = ρ at *
  refine ⟨_, ?_, .d _ _ (.v _)⟩
  cases op <;> simp only [ibits, reduceCtorEq, Option.some.injEq] at hr <;> subst hr <;> simp [execOp, h1, h2, eqGuard, binOp, Op.intBits, go_sem] <;> rfl

theorem Pure.shl {k k' : IntKind} {m n : Int} (e1 : Ev S c x (iv k m)) (e2 : Ev S c y (iv k' n)) (h0 : c = true → 0 ≤ n) : Pure P S [] ⟨d, .binOp .shl t x y t', ty, pos, af, gd⟩ c (iv k (k.wrap (m * 2 ^ (min n.toNat k.bits)))) := by
  refine ⟨(fun _ h => nomatch h), fun E V M a w h hc => ?_⟩
  have h1 := h.val (by simp [Op.operands]) e1
  have h2 := h.val (by simp [Op.operands]) e2
  have hn : ¬ n < 0 := by have := h0 hc; omega
  generalize a.eval = ρ at *
  refine ⟨_, ?_, .d _ _ (.v _)⟩
  simp [execOp, h1, h2, eqGuard, binOp, Op.shift, hn, go_sem]
theorem Pure.shr {k k' : IntKind} {m n : Int} (e1 : Ev S c x (iv k m)) (e2 : Ev S c y (iv k' n)) (h0 : c = true → 0 ≤ n) : Pure P S [] ⟨d, .binOp .shr t x y t', ty, pos, af, gd⟩ c (iv k (m.fdiv (2 ^ (min n.toNat k.bits)))) := by
  refine ⟨(fun _ h => nomatch h), fun E V M a w h hc => ?_⟩
  have h1 := h.val (by simp [Op.operands]) e1
  have h2 := h.val (by simp [Op.operands]) e2
  have hn : ¬ n < 0 := by have := h0 hc; omega
  generalize a.eval = ρ at *
  refine ⟨_, ?_, .d _ _ (.v _)⟩
  simp [execOp, h1, h2, eqGuard, binOp, Op.shift, hn, go_sem]

theorem Pure.quo {k : IntKind} {m n : Int} (e1 : Ev S c x (iv k m)) (e2 : Ev S c y (iv k n)) (h0 : c = true → n ≠ 0) : Pure P S [] ⟨d, .binOp .quo t x y t', ty, pos, af, gd⟩ c (iv k (k.wrap (m.tdiv n))) := by
  refine ⟨(fun _ h => nomatch h), fun E V M a w h hc => ?_⟩
  have h1 := h.val (by simp [Op.operands]) e1
  have h2 := h.val (by simp [Op.operands]) e2
  generalize a.eval = ρ at *
  refine ⟨_, ?_, .d _ _ (.v _)⟩
  simp [execOp, h1, h2, eqGuard, binOp, Op.intDiv, h0 hc, go_sem]
theorem Pure.rem {k : IntKind} {m n : Int} (e1 : Ev S c x (iv k m)) (e2 : Ev S c y (iv k n)) (h0 : c = true → n ≠ 0) : Pure P S [] ⟨d, .binOp .rem t x y t', ty, pos, af, gd⟩ c (iv k (m.tmod n)) := by
  refine ⟨(fun _ h => nomatch h), fun E V M a w h hc => ?_⟩
  have h1 := h.val (by simp [Op.operands]) e1
  have h2 := h.val (by simp [Op.operands]) e2
  generalize a.eval = ρ at *
  refine ⟨_, ?_, .d _ _ (.v _)⟩
  simp [execOp, h1, h2, eqGuard, binOp, Op.intDiv, h0 hc, go_sem]

/-- Two bools. -/
theorem Pure.beq {p q : Bool} (hu : P.underlying t = some .bool) (e1 : Ev S c x (bv p)) (e2 : Ev S c y (bv q)) : Pure P S [] ⟨d, .binOp .eql t x y t', ty, pos, af, gd⟩ c (bv (p == q)) := by
  refine ⟨(fun _ h => nomatch h), fun E V M a w h hc => ?_⟩
  have h1 := h.val (by simp [Op.operands]) e1
  have h2 := h.val (by simp [Op.operands]) e2
  generalize a.eval = ρ at *
  refine ⟨_, ?_, .d _ _ (.v _)⟩
  simp only [execOp, h1, h2, eqGuard]
  simp [run_eql_bool, run_neq_bool, hu, go_sem]
theorem Pure.bne {p q : Bool} (hu : P.underlying t = some .bool) (e1 : Ev S c x (bv p)) (e2 : Ev S c y (bv q)) : Pure P S [] ⟨d, .binOp .neq t x y t', ty, pos, af, gd⟩ c (bv (!(p == q))) := by
  refine ⟨(fun _ h => nomatch h), fun E V M a w h hc => ?_⟩
  have h1 := h.val (by simp [Op.operands]) e1
  have h2 := h.val (by simp [Op.operands]) e2
  generalize a.eval = ρ at *
  refine ⟨_, ?_, .d _ _ (.v _)⟩
  simp only [execOp, h1, h2, eqGuard]
  simp [run_eql_bool, run_neq_bool, hu, go_sem]

theorem toList_beq (p q : ByteArray) : (p.toList == q.toList) = decide (p = q) := by
  have key : ∀ (a b : ByteArray), a.toList = b.toList → a = b := by
    intro a b h
    rw [ByteArray.toList_eq, ByteArray.toList_eq] at h
    exact ByteArray.ext (Array.toList_inj.1 h)
  rw [Bool.eq_iff_iff]
  simp only [beq_iff_eq, decide_eq_true_eq]
  exact ⟨key p q, fun h => by rw [h]⟩
theorem Pure.seq {p q : ByteArray} (e1 : Ev S c x (sv p)) (e2 : Ev S c y (sv q)) : Pure P S [] ⟨d, .binOp .eql t x y t', ty, pos, af, gd⟩ c (bv (decide (p = q))) := by
  refine ⟨(fun _ h => nomatch h), fun E V M a w h hc => ?_⟩
  have h1 := h.val (by simp [Op.operands]) e1
  have h2 := h.val (by simp [Op.operands]) e2
  generalize a.eval = ρ at *
  refine ⟨_, ?_, .d _ _ (.v _)⟩
  simp only [execOp, h1, h2, eqGuard, binOp, Op.stringOp, toList_beq]
  simp [go_sem]
theorem Pure.not {p : Bool} (e1 : Ev S c x (bv p)) : Pure P S [] ⟨d, .unOp .not t x, ty, pos, af, gd⟩ c (bv (!p)) := by
  refine ⟨(fun _ h => nomatch h), fun E V M a w h hc => ?_⟩
  have h1 := h.val (by simp [Op.operands]) e1
  generalize a.eval = ρ at *
  refine ⟨_, ?_, .d _ _ (.v _)⟩
  simp [execOp, h1, Op.unary, go_sem]
theorem Pure.neg {k : IntKind} {m : Int} (e1 : Ev S c x (iv k m)) (hb : c = true → k.min ≤ -m ∧ -m ≤ k.max) : Pure P S [] ⟨d, .unOp .neg t x, ty, pos, af, gd⟩ c (iv k (-m)) := by
  refine ⟨(fun _ h => nomatch h), fun E V M a w h hc => ?_⟩
  have h1 := h.val (by simp [Op.operands]) e1
  generalize a.eval = ρ at *
  refine ⟨_, ?_, .d _ _ (.v _)⟩
  have : k.wrap (0 - m) = -m := by rw [show (0 : Int) - m = -m by omega]; exact IntKind.wrap_in k _ (hb hc)
  simp [execOp, h1, Op.unary, Op.intArith, go_sem, IntKind.wrap_in k _ (hb hc)]
/-- ^x. -/
theorem Pure.inv {k : IntKind} {m r : Int} (e1 : Ev S c x (iv k m)) (hr : ibits .xor k (if k.signed then -1 else k.max) m = some r) : Pure P S [] ⟨d, .unOp .xor t x, ty, pos, af, gd⟩ c (iv k r) := by
  refine ⟨(fun _ h => nomatch h), fun E V M a w h hc => ?_⟩
  have h1 := h.val (by simp [Op.operands]) e1
  generalize a.eval = ρ at *
  refine ⟨_, ?_, .d _ _ (.v _)⟩
  simp only [ibits, Option.some.injEq] at hr
  subst hr
  simp only [execOp, h1, Op.unary, Op.intBits]
  rfl

theorem Pure.conv {k k' : IntKind} {m : Int} {u : TypeDesc} (h1 : P.underlying t = some u) (h2 : P.underlying t' = some (.int k')) (e1 : Ev S c x (iv k m)) : Pure P S [] ⟨d, .convert t t' x, ty, pos, af, gd⟩ c (iv k' (k'.wrap m)) := by
  refine ⟨(fun _ h => nomatch h), fun E V M a w h hc => ?_⟩
  have h3 := h.val (by simp [Op.operands]) e1
  generalize a.eval = ρ at *
  refine ⟨_, ?_, .d _ _ (.v _)⟩
  simp [execOp, h3, convert, run_underlying h1, run_underlying h2, Conv.intToInt, go_sem]

theorem Pure.max2 {k : IntKind} {m n : Int} {ts : Array TypeId} (e1 : Ev S c x (iv k m)) (e2 : Ev S c y (iv k n)) : Pure P S [] ⟨d, .call ⟨.builtin .max, #[x, y], ts⟩, ty, pos, af, gd⟩ c (iv k (max m n)) := by
  refine ⟨(fun _ h => nomatch h), fun E V M a w h hc => ?_⟩
  have h1 := h.val (by simp [Op.operands, Call.operands]) e1
  have h2 := h.val (by simp [Op.operands, Call.operands]) e2
  generalize a.eval = ρ at *
  refine ⟨_, ?_, .d _ _ (.v _)⟩
  have : (if m < n then n else m) = max m n := by omega
  simp [execOp, resolve, invoke, builtin, Builtin.max_, Builtin.max2, h1, h2, go_sem, this]

/-- len. -/
theorem Pure.lenS {s : ByteArray} {ts : Array TypeId} (hts : ts[0]? = some t) (hu : P.underlying t = some .string) (e1 : Ev S c x (sv s)) : Pure P S [] ⟨d, .call ⟨.builtin .len, #[x], ts⟩, ty, pos, af, gd⟩ c (iv .i64 s.size) := by
  refine ⟨(fun _ h => nomatch h), fun E V M a w h hc => ?_⟩
  have h1 := h.val (by simp [Op.operands, Call.operands]) e1
  generalize a.eval = ρ at *
  refine ⟨_, ?_, .d _ _ (.v _)⟩
  simp [execOp, resolve, invoke, builtin, Builtin.len_, h1, hts, run_underlying hu, goInt, go_sem]
/-- The length of whatever is a slice. -/
def AV.lenOf : AV → Option Nat
  | .d (.rows _ len _) => some len
  | .d (.v (.slice _ n _)) => some n
  | .own _ len => some len
  | .sl _ _ _ len => some len
  | .sa _ _ _ len _ => some len
  | _ => none
theorem slice_of_lenOf {V : Vals} {M : Mem} {u : AV} {v : Value} {n : Nat} (h : Den V M u v) (hl : u.lenOf = some n) : ∃ a cap, v = .slice a n cap := by
  cases h with
  | d u v h =>
    cases h with
    | v =>
      cases v <;> simp only [AV.lenOf, reduceCtorEq, Option.some.injEq] at hl
      subst hl; exact ⟨_, _, rfl⟩
    | emp => simp only [AV.lenOf, Option.some.injEq] at hl; subst hl; exact ⟨_, _, rfl⟩
    | rows => simp only [AV.lenOf, Option.some.injEq] at hl; subst hl; exact ⟨_, _, rfl⟩
    | agg => simp [AV.lenOf] at hl
  | own => simp only [AV.lenOf, Option.some.injEq] at hl; subst hl; exact ⟨_, _, rfl⟩
  | ownNil => simp only [AV.lenOf, Option.some.injEq] at hl; subst hl; exact ⟨_, _, rfl⟩
  | sl => simp only [AV.lenOf, Option.some.injEq] at hl; subst hl; exact ⟨_, _, rfl⟩
  | slEmp => simp only [AV.lenOf, Option.some.injEq] at hl; subst hl; exact ⟨_, _, rfl⟩
  | sa => simp only [AV.lenOf, Option.some.injEq] at hl; subst hl; exact ⟨_, _, rfl⟩
  | _ => simp [AV.lenOf] at hl
theorem Pure.len {u : AV} {n : Nat} {e : TypeId} {ts : Array TypeId} (hts : ts[0]? = some t) (hu : P.underlying t = some (.slice e)) (e1 : Ev S c x u) (hl : u.lenOf = some n) : Pure P S [] ⟨d, .call ⟨.builtin .len, #[x], ts⟩, ty, pos, af, gd⟩ c (iv .i64 n) := by
  refine ⟨(fun _ h => nomatch h), fun E V M a w h hc => ?_⟩
  obtain ⟨b, cap, h1⟩ := slice_of_lenOf (h.opd x (by simp [Op.operands, Call.operands]) _ e1) hl
  generalize a.eval = ρ at *
  refine ⟨_, ?_, .d _ _ (.v _)⟩
  simp [execOp, resolve, invoke, builtin, Builtin.len_, h1, hts, run_underlying hu, goInt, go_sem]

/-- A function's value with what it captured. -/
theorem Pure.func {f : FuncId} {first captured : Array Operand} {cs : List AV} (h0 : first = #[]) (hl : cs.length = captured.size) (e : ∀ (j : Nat) (x : Operand) (y : AV), captured[j]? = some x → cs[j]? = some y → Ev S c x y) :
    Pure P S [] ⟨d, .makeFunc (.func f) first captured, ty, pos, af, gd⟩ c (.fn f cs) := by
  subst h0
  refine ⟨(fun _ h => nomatch h), fun E V M a w h hc => ?_⟩
  refine ⟨.func (.func f) #[] (captured.toList.map a.eval).toArray, by simp [execOp, Instr.makeFunc, go_sem, ← Array.toList_map], .fn f cs _ (by simpa using hl) ?_⟩
  intro j x y hx hy
  simp only [List.getElem?_map, Option.map_eq_some_iff] at hy
  obtain ⟨z, hz, rfl⟩ := hy
  have hz' : captured[j]? = some z := by simpa using hz
  exact h.opd z (by simp only [Op.operands, Array.empty_append]; exact Array.mem_of_getElem? hz') _ (e j z x hz' hx)

/-- A part of a tuple. -/
theorem Pure.extract {l : List AV} {i : Nat} {r : AV} (e1 : Ev S c x (.tup l)) (hr : l[i]? = some r) : Pure P S [] ⟨d, .extract x i, ty, pos, af, gd⟩ c r := by
  refine ⟨(fun _ h => nomatch h), fun E V M a w h hc => ?_⟩
  have h1 := h.opd x (by simp [Op.operands]) _ e1
  generalize he : a.eval x = v at h1
  cases h1 with
  | tup _ vs hl hv =>
    obtain ⟨hi, _⟩ := List.getElem?_eq_some_iff.1 hr
    have hi' : i < vs.length := by omega
    refine ⟨vs[i], ?_, hv i r _ hr (List.getElem?_eq_getElem hi')⟩
    generalize a.eval = ρ at *
    simp [execOp, Instr.extract, he, hi', go_sem]
end

end Go.Proofs.YtmdfamnnnoieaaaDoor

/- What becomes of an abstract state when a block is made, or one of its own blocks is written. No program in sight. -/
namespace Go.Proofs.YtmdfamnnnoieaaaDoor
open Go
set_option linter.unusedVariables false
set_option linter.unusedSimpArgs false

def Vals.set (V : Vals) (l b : Nat) (k : Option Nat) : Vals := ⟨fun m => if m = l then b else V.ρ m, fun m => if m = l then k else V.κ m⟩
@[simp] theorem Vals.set_ρ (V : Vals) (l b : Nat) (k : Option Nat) : (V.set l b k).ρ l = b := by simp [Vals.set]
@[simp] theorem Vals.set_κ (V : Vals) (l b : Nat) (k : Option Nat) : (V.set l b k).κ l = k := by simp [Vals.set]
theorem Vals.set_ne (V : Vals) {l m : Nat} (b : Nat) (k : Option Nat) (h : m ≠ l) : (V.set l b k).ρ m = V.ρ m ∧ (V.set l b k).κ m = V.κ m := by simp [Vals.set, h]

theorem Den.relab {V : Vals} {M : Mem} {x : AV} {v : Value} (h : Den V M x v) {l : Nat} (b : Nat) (k : Option Nat) (hm : ¬ Ment x l) : Den (V.set l b k) M x v :=
  h.mono (Mem.le_refl M) fun m hm' => V.set_ne b k fun e => hm (e ▸ hm')

/-- w' is w but for block β, which holds o. -/
structure WStep (w w' : World) (β : Nat) : Prop where
  os : w'.os = w.os
  tape : w'.tape = w.tape
  output : w'.output = w.output
  size : w.heap.size ≤ w'.heap.size
  other : ∀ b, b ≠ β → b < w.heap.size → w'.heap[b]? = w.heap[b]?
  lt : β < w'.heap.size

theorem WStep.cell {w w' : World} {β : Nat} (h : WStep w w' β) {b o : Nat} {v : Value} (hb : b ≠ β) (hc : w.cell? ⟨b, o, none⟩ = some v) : w'.cell? ⟨b, o, none⟩ = some v := by
  unfold World.cell? at *
  have hlt : b < w.heap.size := by
    rcases Nat.lt_or_ge b w.heap.size with h | h
    · exact h
    · simp [Array.getElem?_eq_none h] at hc
  rw [h.other b hb hlt]
  exact hc

theorem BlkAt.relab {V : Vals} {M : Mem} {w w' : World} {l l' : Nat} {B : Blk} (h : BlkAt V M w l B) (b : Nat) (k : Option Nat) (hne : l ≠ l') (hm : ¬ BMent B l') (hw : V.κ l ≠ none → w'.heap[V.ρ l]? = w.heap[V.ρ l]?) : BlkAt (V.set l' b k) M w' l B := by
  obtain ⟨e1, e2⟩ := V.set_ne b k hne
  have key : ∀ cs, cellsAt V M w l cs → (∀ x ∈ cs, ¬ Ment x l') → cellsAt (V.set l' b k) M w' l cs := by
    intro cs h hm
    obtain ⟨hk, vs, t, hb, hs, hd⟩ := h
    exact ⟨by rwa [e2], vs, t, by rw [e1, hw hk]; exact hb, hs, fun j x y hx hy => (hd j x y hx hy).relab b k fun hmx => hm x (List.mem_of_getElem? hx) hmx⟩
  cases B with
  | cells cs => exact key cs h fun x hx hmx => hm (.cells cs x l' hx hmx)
  | data ds => exact key _ h fun x hx hmx => by obtain ⟨y, _, rfl⟩ := List.mem_map.1 hx; cases hmx
  | cols n len cs =>
    obtain ⟨hk, vs, t, hb, hs, hr⟩ := h
    exact ⟨by rwa [e2], vs, t, by rw [e1, hw hk]; exact hb, hs, hr⟩
  | app n len cs =>
    obtain ⟨h1, h2, h3⟩ := h
    refine ⟨h1, h2, ?_⟩
    rw [e2, e1]
    cases hk : V.κ l with
    | none => rw [hk] at h3; exact h3
    | some cap =>
      rw [hk] at h3
      obtain ⟨hc, vs, t, hb, hs, hr⟩ := h3
      exact ⟨hc, vs, t, by rw [hw (by rw [hk]; simp)]; exact hb, hs, hr⟩
  | lp h' ts =>
    have e : ∀ m, m ≠ l' → (V.set l' b k).ρ m = V.ρ m ∧ (V.set l' b k).κ m = V.κ m := fun m hm => V.set_ne b k hm
    exact lpAt.turn h (Mem.le_refl _) ⟨e1, e2⟩ (fun m hm' => e m fun h => hm (h ▸ hm')) hw
  | appv cs =>
    have e : ∀ m, m ≠ l' → (V.set l' b k).ρ m = V.ρ m ∧ (V.set l' b k).κ m = V.κ m := fun m hm => V.set_ne b k hm
    exact appvAt.turn h (Mem.le_refl _) ⟨e1, e2⟩ (fun m hm' => e m fun h => hm (h ▸ hm')) hw
  | keys ks => obtain ⟨hk, es, c, hb, hr⟩ := h; exact ⟨by rwa [e2], es, c, by rw [e1, hw hk]; exact hb, hr⟩

def delsOf (ds : List Nat) : List (Nat × Option Cont) := ds.map fun n => (n, none)
theorem lastOf_append (n : Nat) (d : Option Cont) (u v : List (Nat × Option Cont)) : lastOf n d (u ++ v) = lastOf n (lastOf n d u) v := by
  induction u generalizing d with
  | nil => rfl
  | cons x r ih => obtain ⟨m, c⟩ := x; simp only [List.cons_append, lastOf]; exact ih _
theorem lastOf_dels (n : Nat) (d : Option Cont) (ds : List Nat) : lastOf n d (delsOf ds) = if n ∈ ds then none else d := by
  induction ds generalizing d with
  | nil => rfl
  | cons m r ih =>
    simp only [delsOf, List.map_cons, lastOf] at *
    rw [ih]
    by_cases h : m = n
    · simp [h]
    · by_cases h' : n ∈ r
      · simp [h', h]
      · simp [h', h, Ne.symm h]

/-- What a step that makes (or turns) label l' leaves behind: names that are dropped, the block, the slot. -/
abbrev postOf (ds : List Nat) (l' : Nat) (B : Blk) (d : Nat) (x : AV) : List (Nat × Option Cont) := delsOf ds ++ [(bk l', some (.blk B)), (sl d, some (.av x))]
theorem get_postOf (S : St) (ds : List Nat) (l' : Nat) (B : Blk) (d : Nat) (x : AV) (n : Nat) :
    (S.upd (postOf ds l' B d x)).get n = if sl d = n then some (.av x) else if bk l' = n then some (.blk B) else if n ∈ ds then none else S.get n := by
  rw [St.get_upd, lastOf_append, lastOf_dels]
  simp only [lastOf]

def St.dels : List Nat → St → St
  | [], S => S
  | n :: r, S => St.dels r (St.del n S)
theorem get_dels : ∀ (ds : List Nat) (S : St) (m : Nat), (St.dels ds S).get m = if m ∈ ds then none else S.get m
  | [], S, m => by simp [St.dels]
  | n :: r, S, m => by
    simp only [St.dels]
    rw [get_dels r, St.get_del]
    by_cases h1 : m ∈ r
    · simp [h1]
    · by_cases h2 : n = m
      · subst h2; simp [h1]
      · simp [h1, h2, Ne.symm h2]
/-- The state behind a step that makes (or turns) label l'. -/
abbrev St.after (S : St) (ds : List Nat) (l' : Nat) (B : Blk) (d : Nat) (x : AV) : St := (sl d, .av x) :: (bk l', .blk B) :: St.dels ds S
theorem after_upd (S : St) (ds : List Nat) (l' : Nat) (B : Blk) (d : Nat) (x : AV) : ∀ n, (S.after ds l' B d x).get n = (S.upd (postOf ds l' B d x)).get n := fun n => by
  rw [get_postOf, get_cons, get_cons, get_dels]

section
variable {E : Env} {S : St} {V : Vals} {M : Mem} {a : Act} {w w' : World}

theorem names_postOf {ds : List Nat} {l' : Nat} {B : Blk} {d : Nat} {x : AV} {n : Nat} : n ∈ (postOf ds l' B d x).map Prod.fst ↔ n ∈ ds ∨ n = bk l' ∨ n = sl d := by
  simp only [postOf, delsOf, List.map_append, List.map_map, List.map_cons, List.map_nil, List.mem_append, List.mem_map, Function.comp, List.mem_cons, List.not_mem_nil, or_false]
  constructor
  · rintro (⟨m, hm, rfl⟩ | h)
    · exact .inl hm
    · exact .inr h
  · rintro (h | h)
    · exact .inl ⟨n, h, rfl⟩
    · exact .inr h

/-- A step that makes label l' (on a new block, or on an owned block whose elder label is dropped). -/
theorem rep_step (ha : RepA E S V M a) (hw : RepW E S V M w) {β : Nat} (hst : WStep w w' β) {ds : List Nat} {l' : Nat} {κ' : Option Nat} {B : Blk} {d : Nat} {x : AV} {v : Value}
    (hβ : β = w.heap.size ∨ ∃ l, HasB V S l ∧ V.ρ l = β ∧ (bk l ∈ ds ∨ l = l'))
    (hf : ∀ n c, S.get n = some c → n ∉ (postOf ds l' B d x).map Prod.fst → ¬ CMent c l') (hk : l' ∉ E.keep) (hd : d < E.nt)
    (hB : BlkAt (V.set l' β κ') M w' l' B) (hx : Den (V.set l' β κ') M x v) : Rep E (S.upd (postOf ds l' B d x)) (a.put (some d) v) w' := by
  have hold : ∀ n c, (S.upd (postOf ds l' B d x)).get n = some c → n ≠ sl d → n ≠ bk l' → S.get n = some c ∧ n ∉ ds ∧ ¬ CMent c l' := by
    intro n c hc h1 h2
    rw [get_postOf, if_neg (Ne.symm h1), if_neg (Ne.symm h2)] at hc
    by_cases hn : n ∈ ds
    · rw [if_pos hn] at hc; cases hc
    · rw [if_neg hn] at hc
      refine ⟨hc, hn, hf n c hc ?_⟩
      rw [names_postOf]
      rintro (h | h | h)
      · exact hn h
      · exact h2 h
      · exact h1 h
  have hhas : ∀ l, HasB (V.set l' β κ') (S.upd (postOf ds l' B d x)) l → l ≠ l' → HasB V S l ∧ bk l ∉ ds := by
    rintro l ⟨⟨C, hC⟩, hkl⟩ hne
    obtain ⟨h1, h2, _⟩ := hold (bk l) _ hC (Ne.symm (sl_ne_bk d l)) (fun e => hne (by unfold bk at e; omega))
    exact ⟨⟨⟨C, h1⟩, by rwa [(V.set_ne β κ' hne).2] at hkl⟩, h2⟩
  have hβne : ∀ l, HasB V S l → l ≠ l' → bk l ∉ ds → V.ρ l ≠ β := by
    intro l hl hne hds e
    rcases hβ with h | ⟨m, hm, hmb, hmd⟩
    · have := hw.bd l hl; omega
    · by_cases hlm : l = m
      · subst hlm
        rcases hmd with h | h
        · exact hds h
        · exact hne h
      · exact hw.inj l m hl hm hlm (e.trans hmb.symm)
  have hβM : ∀ o, M β o = none := by
    intro o
    rcases hβ with h | ⟨m, hm, hmb, _⟩
    · cases hc : M β o with
      | none => rfl
      | some u =>
        have := hw.mem _ _ _ hc
        subst h
        simp [World.cell?] at this
    · rw [← hmb]; exact hw.sep m hm o
  refine ⟨V.set l' β κ', M, ⟨?_, by simp [Act.put, ha.size], ha.defers⟩, ?_⟩
  · intro t y hy
    by_cases ht : t = d
    · subst ht
      rw [get_postOf, if_pos rfl] at hy
      injection hy with hy; injection hy with hy; subst hy
      exact ⟨v, by simp [Act.put, ha.size, hd], hx⟩
    · obtain ⟨h1, _, h3⟩ := hold (sl t) _ hy (fun e => ht (sl_inj e)) (sl_ne_bk t l')
      obtain ⟨u, hu, hdu⟩ := ha.slots t y h1
      exact ⟨u, by simp [Act.put, Ne.symm ht, hu], hdu.relab β κ' h3⟩
  · refine { blks := ?_, inj := ?_, sep := ?_, fresh := ?_, bd := ?_, mem := ?_, mle := hw.mle, glb := hw.glb, mnew := hw.mnew, keep := ?_, frame := ?_ }
    · intro l C hC
      by_cases hl : l = l'
      · subst hl
        rw [get_postOf, if_neg (sl_ne_bk d l), if_pos rfl] at hC
        injection hC with hC; injection hC with hC; subst hC
        exact hB
      · obtain ⟨h1, h2, h3⟩ := hold (bk l) _ hC (Ne.symm (sl_ne_bk d l)) (fun e => hl (by unfold bk at e; omega))
        refine (hw.blks l C h1).relab β κ' hl h3 fun hkl => ?_
        have hhb : HasB V S l := ⟨⟨C, h1⟩, hkl⟩
        exact hst.other _ (hβne l hhb hl h2) (hw.bd l hhb)
    · intro l m hl hm hne
      by_cases h1 : l = l'
      · subst h1
        have h2 : m ≠ l := Ne.symm hne
        obtain ⟨hm', hmd⟩ := hhas m hm h2
        rw [Vals.set_ρ, (V.set_ne β κ' h2).1]
        exact Ne.symm (hβne m hm' h2 hmd)
      · obtain ⟨hl', hld⟩ := hhas l hl h1
        by_cases h2 : m = l'
        · subst h2
          rw [Vals.set_ρ, (V.set_ne β κ' h1).1]
          exact hβne l hl' h1 hld
        · obtain ⟨hm', hmd⟩ := hhas m hm h2
          rw [(V.set_ne β κ' h1).1, (V.set_ne β κ' h2).1]
          exact hw.inj l m hl' hm' hne
    · intro l hl o
      by_cases h1 : l = l'
      · subst h1; rw [Vals.set_ρ]; exact hβM o
      · rw [(V.set_ne β κ' h1).1]; exact hw.sep l (hhas l hl h1).1 o
    · intro l hl
      by_cases h1 : l = l'
      · subst h1; rw [Vals.set_ρ]
        rcases hβ with h | ⟨m, hm, hmb, _⟩
        · left; have := hw.frame.size; omega
        · rw [← hmb]; exact hw.fresh m hm
      · rw [(V.set_ne β κ' h1).1]; exact hw.fresh l (hhas l hl h1).1
    · intro l hl
      by_cases h1 : l = l'
      · subst h1; rw [Vals.set_ρ]; exact hst.lt
      · rw [(V.set_ne β κ' h1).1]; exact Nat.lt_of_lt_of_le (hw.bd l (hhas l hl h1).1) hst.size
    · intro b o u hu
      refine hst.cell (fun e => ?_) (hw.mem b o u hu)
      rw [e, hβM o] at hu; cases hu
    · intro l hl
      have hne : l ≠ l' := fun e => hk (e ▸ hl)
      rw [(V.set_ne β κ' hne).1, (V.set_ne β κ' hne).2]
      exact hw.keep l hl
    · refine ⟨hst.os.trans hw.frame.os, hst.tape.trans hw.frame.tape, hst.output.trans hw.frame.output, Nat.le_trans hw.frame.size hst.size, fun b hb hp => ?_⟩
      rw [← hw.frame.block b hb hp]
      refine hst.other b (fun e => ?_) (Nat.lt_of_lt_of_le hb hw.frame.size)
      rcases hβ with h | ⟨m, hm, hmb, _⟩
      · have := hw.frame.size; omega
      · rcases hw.fresh m hm with h | h
        · omega
        · exact hp (by rw [e, ← hmb]; exact h)

/-- A step that makes label l' without a block (a nil slice). -/
theorem rep_nil (ha : RepA E S V M a) (hw : RepW E S V M w) {ds : List Nat} {l' : Nat} {B : Blk} {d : Nat} {x : AV} {v : Value}
    (hf : ∀ n c, S.get n = some c → n ∉ (postOf ds l' B d x).map Prod.fst → ¬ CMent c l') (hk : l' ∉ E.keep) (hd : d < E.nt)
    (hB : BlkAt (V.set l' 0 none) M w l' B) (hx : Den (V.set l' 0 none) M x v) : Rep E (S.upd (postOf ds l' B d x)) (a.put (some d) v) w := by
  have hold : ∀ n c, (S.upd (postOf ds l' B d x)).get n = some c → n ≠ sl d → n ≠ bk l' → S.get n = some c ∧ n ∉ ds ∧ ¬ CMent c l' := by
    intro n c hc h1 h2
    rw [get_postOf, if_neg (Ne.symm h1), if_neg (Ne.symm h2)] at hc
    by_cases hn : n ∈ ds
    · rw [if_pos hn] at hc; cases hc
    · rw [if_neg hn] at hc
      refine ⟨hc, hn, hf n c hc ?_⟩
      rw [names_postOf]
      rintro (h | h | h)
      · exact hn h
      · exact h2 h
      · exact h1 h
  have hhas : ∀ l, HasB (V.set l' 0 none) (S.upd (postOf ds l' B d x)) l → l ≠ l' ∧ HasB V S l := by
    rintro l ⟨⟨C, hC⟩, hkl⟩
    have hne : l ≠ l' := fun e => hkl (by rw [e]; simp)
    obtain ⟨h1, h2, _⟩ := hold (bk l) _ hC (Ne.symm (sl_ne_bk d l)) (fun e => hne (by unfold bk at e; omega))
    exact ⟨hne, ⟨⟨C, h1⟩, by rwa [(V.set_ne 0 none hne).2] at hkl⟩⟩
  refine ⟨V.set l' 0 none, M, ⟨?_, by simp [Act.put, ha.size], ha.defers⟩, ?_⟩
  · intro t y hy
    by_cases ht : t = d
    · subst ht
      rw [get_postOf, if_pos rfl] at hy
      injection hy with hy; injection hy with hy; subst hy
      exact ⟨v, by simp [Act.put, ha.size, hd], hx⟩
    · obtain ⟨h1, _, h3⟩ := hold (sl t) _ hy (fun e => ht (sl_inj e)) (sl_ne_bk t l')
      obtain ⟨u, hu, hdu⟩ := ha.slots t y h1
      exact ⟨u, by simp [Act.put, Ne.symm ht, hu], hdu.relab 0 none h3⟩
  · refine { blks := ?_, inj := ?_, sep := ?_, fresh := ?_, bd := ?_, mem := hw.mem, mle := hw.mle, glb := hw.glb, mnew := hw.mnew, keep := ?_, frame := hw.frame }
    · intro l C hC
      by_cases hl : l = l'
      · subst hl
        rw [get_postOf, if_neg (sl_ne_bk d l), if_pos rfl] at hC
        injection hC with hC; injection hC with hC; subst hC
        exact hB
      · obtain ⟨h1, h2, h3⟩ := hold (bk l) _ hC (Ne.symm (sl_ne_bk d l)) (fun e => hl (by unfold bk at e; omega))
        exact (hw.blks l C h1).relab 0 none hl h3 fun _ => rfl
    · intro l m hl hm hne
      obtain ⟨h1, hl'⟩ := hhas l hl
      obtain ⟨h2, hm'⟩ := hhas m hm
      rw [(V.set_ne 0 none h1).1, (V.set_ne 0 none h2).1]
      exact hw.inj l m hl' hm' hne
    · intro l hl o; obtain ⟨h1, hl'⟩ := hhas l hl; rw [(V.set_ne 0 none h1).1]; exact hw.sep l hl' o
    · intro l hl; obtain ⟨h1, hl'⟩ := hhas l hl; rw [(V.set_ne 0 none h1).1]; exact hw.fresh l hl'
    · intro l hl; obtain ⟨h1, hl'⟩ := hhas l hl; rw [(V.set_ne 0 none h1).1]; exact hw.bd l hl'
    · intro l hl
      have hne : l ≠ l' := fun e => hk (e ▸ hl)
      rw [(V.set_ne 0 none hne).1, (V.set_ne 0 none hne).2]
      exact hw.keep l hl

theorem BlkAt.kept {l : Nat} {B : Blk} (h : BlkAt V M w l B) (hw : V.κ l ≠ none → w'.heap[V.ρ l]? = w.heap[V.ρ l]?) : BlkAt V M w' l B := by
  have key : ∀ cs, cellsAt V M w l cs → cellsAt V M w' l cs := fun cs h => by
    obtain ⟨hk, vs, t, hb, hs, hd⟩ := h; exact ⟨hk, vs, t, by rw [hw hk]; exact hb, hs, hd⟩
  cases B with
  | cells cs => exact key cs h
  | data ds => exact key _ h
  | cols n len cs => obtain ⟨hk, vs, t, hb, hs, hr⟩ := h; exact ⟨hk, vs, t, by rw [hw hk]; exact hb, hs, hr⟩
  | app n len cs =>
    obtain ⟨h1, h2, h3⟩ := h
    refine ⟨h1, h2, ?_⟩
    cases hk : V.κ l with
    | none => rw [hk] at h3; exact h3
    | some cap =>
      rw [hk] at h3
      obtain ⟨hc, vs, t, hb, hs, hr⟩ := h3
      exact ⟨hc, vs, t, by rw [hw (by rw [hk]; simp)]; exact hb, hs, hr⟩
  | lp h' ts => exact lpAt.turn h (Mem.le_refl _) ⟨rfl, rfl⟩ (fun _ _ => ⟨rfl, rfl⟩) hw
  | appv cs => exact appvAt.turn h (Mem.le_refl _) ⟨rfl, rfl⟩ (fun _ _ => ⟨rfl, rfl⟩) hw
  | keys ks => obtain ⟨hk, es, c, hb, hr⟩ := h; exact ⟨hk, es, c, by rw [hw hk]; exact hb, hr⟩

/-- A write into an owned block. -/
theorem repW_write (hw : RepW E S V M w) {l : Nat} {B B' : Blk} (hl : S.get (bk l) = some (.blk B)) (hkl : V.κ l ≠ none) (hst : WStep w w' (V.ρ l)) (hB : BlkAt V M w' l B') : RepW E (S.upd [(bk l, some (.blk B'))]) V M w' := by
  have hhl : HasB V S l := ⟨⟨B, hl⟩, hkl⟩
  have hhas : ∀ m, HasB V (S.upd [(bk l, some (.blk B'))]) m → HasB V S m := by
    rintro m ⟨⟨C, hC⟩, hkm⟩
    rw [upd_one] at hC
    by_cases h : bk l = bk m
    · have : l = m := by unfold bk at h; omega
      subst this; exact hhl
    · rw [if_neg h] at hC; exact ⟨⟨C, hC⟩, hkm⟩
  refine { blks := ?_, inj := fun m k hm hk' => hw.inj m k (hhas m hm) (hhas k hk'), sep := fun m hm => hw.sep m (hhas m hm), fresh := fun m hm => hw.fresh m (hhas m hm), bd := fun m hm => Nat.lt_of_lt_of_le (hw.bd m (hhas m hm)) hst.size, mem := ?_, mle := hw.mle, glb := hw.glb, mnew := hw.mnew, keep := hw.keep, frame := ?_ }
  · intro m C hC
    rw [upd_one] at hC
    by_cases h : bk l = bk m
    · have : l = m := by unfold bk at h; omega
      subst this
      rw [if_pos rfl] at hC
      injection hC with hC; injection hC with hC; subst hC
      exact hB
    · rw [if_neg h] at hC
      refine (hw.blks m C hC).kept fun hkm => ?_
      have hm : HasB V S m := ⟨⟨C, hC⟩, hkm⟩
      exact hst.other _ (hw.inj m l hm hhl (fun e => h (by rw [e]))) (hw.bd m hm)
  · intro b o u hu
    refine hst.cell (fun e => ?_) (hw.mem b o u hu)
    rw [e, hw.sep l hhl o] at hu; cases hu
  · refine ⟨hst.os.trans hw.frame.os, hst.tape.trans hw.frame.tape, hst.output.trans hw.frame.output, Nat.le_trans hw.frame.size hst.size, fun b hb hp => ?_⟩
    rw [← hw.frame.block b hb hp]
    refine hst.other b (fun e => ?_) (Nat.lt_of_lt_of_le hb hw.frame.size)
    rcases hw.fresh l hhl with h | h
    · omega
    · exact hp (by rw [e]; exact h)
theorem repA_blk (ha : RepA E S V M a) (l : Nat) (B : Blk) : RepA E (S.upd [(bk l, some (.blk B))]) V M a :=
  ⟨fun t x e => by rw [upd_one, if_neg (Ne.symm (sl_ne_bk t l))] at e; exact ha.slots t x e, ha.size, ha.defers⟩
end

/-- A new block. -/
theorem WStep.alloc (w : World) (o : Obj) : WStep w (w.alloc o) w.heap.size :=
  ⟨rfl, rfl, rfl, by show w.heap.size ≤ (w.heap.push o).size; simp, fun b hb hlt => by show (w.heap.push o)[b]? = _; simp [Array.getElem?_push, hb], by show _ < (w.heap.push o).size; simp⟩
theorem WStep.drew {w w' : World} {β : Nat} (h : WStep w w' β) (k : Nat) : WStep w { w' with drawn := k } β := ⟨h.os, h.tape, h.output, h.size, h.other, h.lt⟩
theorem WStep.modify (w : World) (b : Nat) (f : Obj → Obj) (h : b < w.heap.size) : WStep w { w with heap := w.heap.modify b f } b :=
  ⟨rfl, rfl, rfl, by simp, fun c hc hlt => by simp [Array.getElem?_modify, Ne.symm hc], by simpa using h⟩
theorem WStep.trans {w w' w'' : World} {β : Nat} (h : WStep w w' β) (k : WStep w' w'' β) : WStep w w'' β :=
  ⟨k.os.trans h.os, k.tape.trans h.tape, k.output.trans h.output, Nat.le_trans h.size k.size, fun b hb hlt => (k.other b hb (Nat.lt_of_lt_of_le hlt h.size)).trans (h.other b hb hlt), k.lt⟩

end Go.Proofs.YtmdfamnnnoieaaaDoor

/- Reading: addresses of parts, loads, slices of slices, on abstract states. No program in sight. -/
namespace Go.Proofs.YtmdfamnnnoieaaaDoor
open Go
set_option linter.unusedVariables false
set_option linter.unusedSimpArgs false
variable {P : Program} {S : St} {c : Bool}

/-! Closed facts on types, as computed checks. -/
def tyOK (P : Program) (t : TypeId) (agg : Bool) (n : Nat) : Bool :=
  (match P.info? t with | some i => Nat.beq i.size n | none => false) &&
  (match P.underlying t with | some (.struct _) | some (.array _ _) => agg | some _ => !agg | none => false)
def fieldOK (P : Program) (s f off : Nat) : Bool :=
  match P.underlying s with
  | some (.struct fs) => match fs[f]? with
    | some fd => Nat.beq fd.offset off && (match P.info? fd.type with | some i => !Nat.beq i.size 0 | none => false)
    | none => false
  | _ => false
def elemOK (P : Program) (t : TypeId) (n : Nat) : Bool :=
  match P.underlying t with
  | some (.slice e) => (match P.info? e with | some i => Nat.beq i.size n | none => false)
  | _ => false
def arrOK (P : Program) (t : TypeId) (len : Nat) (agg : Bool) (n : Nat) : Bool :=
  match P.underlying t with
  | some (.array l e) => Nat.beq l len && tyOK P e agg n
  | _ => false

theorem tyOK_size {t : TypeId} {agg : Bool} {n : Nat} (h : tyOK P t agg n = true) : ∃ i, P.info? t = some i ∧ i.size = n := by
  simp only [tyOK, Bool.and_eq_true] at h
  obtain ⟨h1, h2⟩ := h
  cases hi : P.info? t with
  | none => rw [hi] at h1; simp at h1
  | some i => rw [hi] at h1; exact ⟨i, rfl, Nat.eq_of_beq_eq_true h1⟩
theorem tyOK_agg {t : TypeId} {agg : Bool} {n : Nat} (h : tyOK P t agg n = true) (w : World) : (isAgg t).run P w = .ok agg w := by
  simp only [tyOK, Bool.and_eq_true] at h
  obtain ⟨h1, h2⟩ := h
  cases hu : P.underlying t with
  | none => rw [hu] at h2; simp at h2
  | some u =>
    rw [hu] at h2
    have hr := run_underlying hu w
    unfold isAgg
    rw [Sem.run_bind, hr]
    cases u <;> simp_all [Result.andThen]
theorem tyOK_sizeOf {t : TypeId} {agg : Bool} {n : Nat} (h : tyOK P t agg n = true) (w : World) : (sizeOf t).run P w = .ok n w := by
  obtain ⟨i, hi, hn⟩ := tyOK_size h
  rw [run_sizeOf _ hi]
  simp [Program.cellsOf, hi, hn]

theorem addr_add (b o k : Nat) : (⟨b, o, none⟩ : Addr).add k = ⟨b, o + k, none⟩ := by
  unfold Addr.add
  split
  · rename_i h; subst h; rfl
  · rfl

theorem run_loadVar1 {t : TypeId} {n : Nat} (h : tyOK P t false n = true) {w : World} {b o : Nat} {v : Value} (hc : w.cell? ⟨b, o, none⟩ = some v) : (loadVar t ⟨b, o, none⟩).run P w = .ok v w := by
  simp only [loadVar, Sem.run_bind, tyOK_agg h, Result.andThen, Bool.false_eq_true, if_false]
  simp [load, Sem.run, hc]
theorem run_loadVarN {t : TypeId} {n : Nat} (h : tyOK P t true n = true) {w : World} {b o : Nat} {f : Nat → Value} (hc : ∀ j, j < n → w.cell? ⟨b, o + j, none⟩ = some (f j)) :
    (loadVar t ⟨b, o, none⟩).run P w = .ok (.agg ((List.range n).map f).toArray) w := by
  have := run_loadCells (P := P) w ⟨b, o, none⟩ n f (fun j hj => by rw [addr_add]; exact hc j hj)
  simp only [loadVar, Sem.run_bind, tyOK_agg h, tyOK_sizeOf h, Result.andThen, if_true, this]
  rfl

section
variable {o : Oper} {x y z : Operand} {d : Option Tmp} {ty t t' s : TypeId} {pos : String} {af : Array Edge} {gd : Option (Nat × Bool)}

/-! Addresses. -/
def AV.shift (k : Nat) : AV → Option AV
  | .loc l j => some (.loc l (j + k))
  | .locr l n i j => some (.locr l n i (j + k))
  | .rp l => some (.rp (l.drop k))
  | _ => none
theorem den_shift {V : Vals} {M : Mem} {u r : AV} {v : Value} {k : Nat} (h : Den V M u v) (hr : u.shift k = some r) : ∃ b o, v = .pointer (some ⟨b, o, none⟩) ∧ Den V M r (.pointer (some ⟨b, o + k, none⟩)) := by
  cases h with
  | loc l j => simp only [AV.shift, Option.some.injEq] at hr; subst hr; exact ⟨_, _, rfl, .loc l (j + k)⟩
  | locr l n i j => simp only [AV.shift, Option.some.injEq] at hr; subst hr; exact ⟨_, _, rfl, by have := Den.locr (V := V) (M := M) l n i (j + k); rwa [← Nat.add_assoc] at this⟩
  | rp l b o c hm hd =>
    simp only [AV.shift, Option.some.injEq] at hr; subst hr
    refine ⟨b, o, rfl, .rp _ b (o + k) (fun j => c (k + j)) (fun j hj => ?_) (fun j x hx => ?_)⟩
    · rw [List.length_drop] at hj
      have := hm (k + j) (by omega)
      rwa [← Nat.add_assoc] at this
    · rw [List.getElem?_drop] at hx; exact hd _ _ hx
  | _ => simp [AV.shift] at hr
theorem Pure.fieldAddr {f off : Nat} {u r : AV} (hf : fieldOK P s f off = true) (e1 : Ev S c x u) (hr : u.shift off = some r) : Pure P S [] ⟨d, .fieldAddr s x f, ty, pos, af, gd⟩ c r := by
  refine ⟨(fun _ h => nomatch h), fun E V M a w h hc => ?_⟩
  obtain ⟨b, o, he, hd⟩ := den_shift (h.opd x (by simp [Op.operands]) _ e1) hr
  refine ⟨_, ?_, hd⟩
  generalize a.eval = ρ at *
  simp only [fieldOK] at hf
  split at hf
  · rename_i fs hu
    split at hf
    · rename_i fd hfd
      simp only [Bool.and_eq_true, Bool.not_eq_true'] at hf
      obtain ⟨h1, h2⟩ := hf
      have h1 := Nat.eq_of_beq_eq_true h1
      cases hi : P.info? fd.type with
      | none => rw [hi] at h2; simp at h2
      | some i =>
        rw [hi] at h2
        have hz : i.size ≠ 0 := Nat.ne_of_beq_eq_false (by simpa using h2)
        have hsz : (sizeOf fd.type).run P w = .ok i.size w := by rw [run_sizeOf _ hi]; simp [Program.cellsOf, hi]
        simp only [execOp, Instr.fieldAt, Sem.run_bind, run_underlying hu, Result.andThen, hfd, he, Instr.sureAddr, fieldPlace, hsz, Sem.run_pure, if_neg hz, h1, addr_add]
    · cases hf
  · cases hf

/-! Loads. -/
theorem Pure.loadRp1 {l : List D} {r : D} {n : Nat} (ht : tyOK P t false n = true) (e1 : Ev S c x (.rp l)) (hr : l[0]? = some r) : Pure P S [] ⟨d, .load t x, ty, pos, af, gd⟩ c (.d r) := by
  refine ⟨(fun _ h => nomatch h), fun E V M a w h hc => ?_⟩
  have h1 := h.opd x (by simp [Op.operands]) _ e1
  generalize he : a.eval x = v at h1
  generalize a.eval = ρ at *
  cases h1 with
  | rp _ b o f hm hd =>
    have hl : 0 < l.length := (List.getElem?_eq_some_iff.1 hr).1
    refine ⟨f 0, ?_, .d _ _ (hd 0 r hr)⟩
    simp only [execOp, Instr.loadAt, Sem.run_bind, he, Instr.sureAddr, Sem.run_pure, Result.andThen, run_loadVar1 ht (h.mem _ _ _ (by simpa using hm 0 hl))]
theorem Pure.loadRp {l : List D} {n : Nat} (ht : tyOK P t true n = true) (e1 : Ev S c x (.rp l)) (hn : c = true → n ≤ l.length) : Pure P S [] ⟨d, .load t x, ty, pos, af, gd⟩ c (.d (.agg (l.take n))) := by
  refine ⟨(fun _ h => nomatch h), fun E V M a w h hc => ?_⟩
  have h1 := h.opd x (by simp [Op.operands]) _ e1
  have hn := hn hc
  generalize he : a.eval x = v at h1
  generalize a.eval = ρ at *
  cases h1 with
  | rp _ b o f hm hd =>
    refine ⟨.agg ((List.range n).map f).toArray, by simp only [execOp, Instr.loadAt, Sem.run_bind, he, Instr.sureAddr, Sem.run_pure, Result.andThen, run_loadVarN ht (fun j hj => h.mem _ _ _ (hm j (by omega)))], .d _ _ (.agg _ _ (by simp; omega) ?_)⟩
    intro j x y hx hy
    rw [List.getElem?_take] at hx
    split at hx
    · simp only [List.getElem?_map, Option.map_eq_some_iff] at hy
      obtain ⟨k, hk, rfl⟩ := hy
      rw [List.getElem?_range (by assumption)] at hk
      injection hk with hk; subst hk
      exact hd _ _ hx
    · cases hx

/-- All cells immutable data: one value of immutable data. -/
def dsOf : List AV → Option (List D)
  | [] => some []
  | .d x :: r => match dsOf r with
    | some l => some (x :: l)
    | none => none
  | _ :: _ => none
def mkAgg (l : List AV) : AV := match dsOf l with
  | some ds => .d (.agg ds)
  | none => .agg l
theorem dsOf_eq {l : List AV} {ds : List D} (h : dsOf l = some ds) : l = ds.map .d := by
  induction l generalizing ds with
  | nil => simp only [dsOf, Option.some.injEq] at h; subst h; rfl
  | cons x r ih =>
    cases x <;> simp only [dsOf, reduceCtorEq] at h
    split at h
    · rename_i l hl; injection h with h; subst h; rw [ih hl]; rfl
    · cases h
theorem den_mkAgg {V : Vals} {M : Mem} {l : List AV} {v : Value} (h : Den V M (.agg l) v) : Den V M (mkAgg l) v := by
  unfold mkAgg
  split
  · rename_i ds hds
    have := dsOf_eq hds
    subst this
    cases h with
    | agg _ vs hl hd =>
      refine .d _ _ (.agg ds vs (by simpa using hl) fun j x y hx hy => ?_)
      have := hd j (.d x) y (by simp [hx]) hy
      cases this with | d _ _ h => exact h
  · exact h

theorem Pure.loadLoc1 {l j : Nat} {cs : List AV} {r : AV} {n : Nat} (ht : tyOK P t false n = true) (e1 : Ev S c x (.loc l j)) (hb : S.get (bk l) = some (.blk (.cells cs))) (hr : cs[j]? = some r) : Pure P S [l] ⟨d, .load t x, ty, pos, af, gd⟩ c r := by
  refine ⟨(fun _ h => nomatch h), fun E V M a w h hc => ?_⟩
  have h1 := h.opd x (by simp [Op.operands]) _ e1
  obtain ⟨_, vs, tt, hh, hs, hd⟩ := h.blk l (by simp) _ hb
  generalize he : a.eval x = v at h1
  generalize a.eval = ρ at *
  cases h1 with
  | loc _ _ =>
    have hj : j < vs.size := by have := (List.getElem?_eq_some_iff.1 hr).1; omega
    have hc : w.cell? ⟨V.ρ l, j, none⟩ = some vs[j] := by simp [World.cell?, hh, hj]
    refine ⟨vs[j], ?_, hd j r _ hr (Array.getElem?_eq_getElem hj)⟩
    simp only [execOp, Instr.loadAt, Sem.run_bind, he, Instr.sureAddr, Sem.run_pure, Result.andThen, run_loadVar1 ht hc]
theorem Pure.loadLoc {l j : Nat} {cs : List AV} {n : Nat} (ht : tyOK P t true n = true) (e1 : Ev S c x (.loc l j)) (hb : S.get (bk l) = some (.blk (.cells cs))) (hn : c = true → j + n ≤ cs.length) :
    Pure P S [l] ⟨d, .load t x, ty, pos, af, gd⟩ c (mkAgg ((cs.drop j).take n)) := by
  refine ⟨(fun _ h => nomatch h), fun E V M a w h hc => ?_⟩
  have h1 := h.opd x (by simp [Op.operands]) _ e1
  have hn := hn hc
  obtain ⟨_, vs, tt, hh, hs, hd⟩ := h.blk l (by simp) _ hb
  generalize he : a.eval x = v at h1
  generalize a.eval = ρ at *
  cases h1 with
  | loc _ _ =>
    have hc : ∀ k, k < n → w.cell? ⟨V.ρ l, j + k, none⟩ = some (vs.getD (j + k) undef) := fun k hk => by
      have : j + k < vs.size := by omega
      simp [World.cell?, hh, this, Array.getD]
    refine ⟨.agg ((List.range n).map fun k => vs.getD (j + k) undef).toArray, by simp only [execOp, Instr.loadAt, Sem.run_bind, he, Instr.sureAddr, Sem.run_pure, Result.andThen, run_loadVarN ht hc], den_mkAgg (.agg _ _ (by simp; omega) ?_)⟩
    intro k x y hx hy
    rw [List.getElem?_take] at hx
    split at hx
    · rename_i hk
      rw [List.getElem?_drop] at hx
      simp only [List.getElem?_map, Option.map_eq_some_iff] at hy
      obtain ⟨k', hk', rfl⟩ := hy
      rw [List.getElem?_range hk] at hk'
      injection hk' with hk'; subst hk'
      have : j + k < vs.size := by omega
      exact hd _ x _ hx (by simp [this, Array.getD])
    · cases hx

theorem Pure.loadLoc1D {l j : Nat} {ds : List D} {r : D} {n : Nat} (ht : tyOK P t false n = true) (e1 : Ev S c x (.loc l j)) (hb : S.get (bk l) = some (.blk (.data ds))) (hr : ds[j]? = some r) : Pure P S [l] ⟨d, .load t x, ty, pos, af, gd⟩ c (.d r) := by
  refine ⟨(fun _ h => nomatch h), fun E V M a w h hc => ?_⟩
  have h1 := h.opd x (by simp [Op.operands]) _ e1
  obtain ⟨_, vs, tt, hh, hs, hd⟩ := h.blk l (by simp) _ hb
  generalize he : a.eval x = v at h1
  generalize a.eval = ρ at *
  cases h1 with
  | loc _ _ =>
    have hj : j < vs.size := by have := (List.getElem?_eq_some_iff.1 hr).1; simp at hs; omega
    have hc : w.cell? ⟨V.ρ l, j, none⟩ = some vs[j] := by simp [World.cell?, hh, hj]
    refine ⟨vs[j], ?_, hd j (.d r) _ (by simp [hr]) (Array.getElem?_eq_getElem hj)⟩
    simp only [execOp, Instr.loadAt, Sem.run_bind, he, Instr.sureAddr, Sem.run_pure, Result.andThen, run_loadVar1 ht hc]
theorem Pure.loadLocD {l j : Nat} {ds : List D} {n : Nat} (ht : tyOK P t true n = true) (e1 : Ev S c x (.loc l j)) (hb : S.get (bk l) = some (.blk (.data ds))) (hn : c = true → j + n ≤ ds.length) :
    Pure P S [l] ⟨d, .load t x, ty, pos, af, gd⟩ c (.d (.agg ((ds.drop j).take n))) := by
  refine ⟨(fun _ h => nomatch h), fun E V M a w h hc => ?_⟩
  have h1 := h.opd x (by simp [Op.operands]) _ e1
  have hn := hn hc
  obtain ⟨_, vs, tt, hh, hs, hd⟩ := h.blk l (by simp) _ hb
  simp only [List.length_map] at hs
  generalize he : a.eval x = v at h1
  generalize a.eval = ρ at *
  cases h1 with
  | loc _ _ =>
    have hc : ∀ k, k < n → w.cell? ⟨V.ρ l, j + k, none⟩ = some (vs.getD (j + k) undef) := fun k hk => by
      have : j + k < vs.size := by omega
      simp [World.cell?, hh, this, Array.getD]
    refine ⟨.agg ((List.range n).map fun k => vs.getD (j + k) undef).toArray, by simp only [execOp, Instr.loadAt, Sem.run_bind, he, Instr.sureAddr, Sem.run_pure, Result.andThen, run_loadVarN ht hc], .d _ _ (.agg _ _ (by simp; omega) ?_)⟩
    intro k x y hx hy
    rw [List.getElem?_take] at hx
    split at hx
    · rename_i hk
      rw [List.getElem?_drop] at hx
      simp only [List.getElem?_map, Option.map_eq_some_iff] at hy
      obtain ⟨k', hk', rfl⟩ := hy
      rw [List.getElem?_range hk] at hk'
      injection hk' with hk'; subst hk'
      have : j + k < vs.size := by omega
      have hd' := hd (j + k) (.d x) (vs.getD (j + k) undef) (by simp [hx]) (by simp [this, Array.getD])
      cases hd' with | d _ _ h => exact h
    · cases hx

/-- Rows of a block, owned by a slice or an array's. -/
def Blk.rowsOf : Blk → Option (Nat × Nat × List Col)
  | .cols n len cs => some (n, len, cs)
  | .app n len cs => some (n, len, cs)
  | _ => none
theorem rows_of {V : Vals} {M : Mem} {w : World} {l : Nat} {B : Blk} {n len : Nat} {cs : List Col} (h : BlkAt V M w l B) (hr : B.rowsOf = some (n, len, cs)) (hne : 0 < len) : ∃ vs t, w.heap[V.ρ l]? = some (.cells vs t (0, 0)) ∧ rowsAt M n len cs vs := by
  cases B with
  | cells => simp [Blk.rowsOf] at hr
  | data => simp [Blk.rowsOf] at hr
  | lp => simp [Blk.rowsOf] at hr
  | appv => simp [Blk.rowsOf] at hr
  | keys => simp [Blk.rowsOf] at hr
  | cols n' len' cs' =>
    simp only [Blk.rowsOf, Option.some.injEq, Prod.mk.injEq] at hr
    obtain ⟨rfl, rfl, rfl⟩ := hr
    obtain ⟨_, vs, t, hb, _, hr⟩ := h
    exact ⟨vs, t, hb, hr⟩
  | app n' len' cs' =>
    simp only [Blk.rowsOf, Option.some.injEq, Prod.mk.injEq] at hr
    obtain ⟨rfl, rfl, rfl⟩ := hr
    obtain ⟨_, _, h3⟩ := h
    split at h3
    · omega
    · obtain ⟨_, vs, t, hb, _, hr⟩ := h3
      exact ⟨vs, t, hb, hr⟩

theorem Pure.loadCol1 {l n i j len : Nat} {B : Blk} {cs : List Col} {r : Col} {m : Nat} (ht : tyOK P t false m = true) (e1 : Ev S c x (.locr l n i j)) (hb : S.get (bk l) = some (.blk B)) (hB : B.rowsOf = some (n, len, cs)) (hr : cs[j]? = some r)
    (hi : c = true → i < len) : Pure P S [l] ⟨d, .load t x, ty, pos, af, gd⟩ c (.d (r.at i)) := by
  refine ⟨(fun _ h => nomatch h), fun E V M a w h hc => ?_⟩
  have h1 := h.opd x (by simp [Op.operands]) _ e1
  have hi := hi hc
  obtain ⟨vs, tt, hh, _, _, hd⟩ := rows_of (h.blk l (by simp) _ hb) hB (by omega)
  obtain ⟨v', hv', hd'⟩ := hd i j r hi hr
  generalize he : a.eval x = v at h1
  generalize a.eval = ρ at *
  cases h1 with
  | locr _ _ _ _ =>
    refine ⟨v', ?_, .d _ _ hd'⟩
    have hc : w.cell? ⟨V.ρ l, i * n + j, none⟩ = some v' := by simp [World.cell?, hh, hv']
    simp only [execOp, Instr.loadAt, Sem.run_bind, he, Instr.sureAddr, Sem.run_pure, Result.andThen, run_loadVar1 ht hc]
theorem Pure.loadCol {l n i j len : Nat} {B : Blk} {cs : List Col} {m : Nat} (ht : tyOK P t true m = true) (e1 : Ev S c x (.locr l n i j)) (hb : S.get (bk l) = some (.blk B)) (hB : B.rowsOf = some (n, len, cs)) (hj : c = true → j + m ≤ cs.length)
    (hi : c = true → i < len) : Pure P S [l] ⟨d, .load t x, ty, pos, af, gd⟩ c (.d (.agg (((cs.drop j).take m).map (Col.at · i)))) := by
  refine ⟨(fun _ h => nomatch h), fun E V M a w h hc => ?_⟩
  have h1 := h.opd x (by simp [Op.operands]) _ e1
  have hi := hi hc
  have hj := hj hc
  obtain ⟨vs, tt, hh, hcn, _, hd⟩ := rows_of (h.blk l (by simp) _ hb) hB (by omega)
  generalize he : a.eval x = v at h1
  generalize a.eval = ρ at *
  cases h1 with
  | locr _ _ _ _ =>
    have hc : ∀ k, k < m → w.cell? ⟨V.ρ l, i * n + j + k, none⟩ = some (vs.getD (i * n + j + k) undef) := fun k hk => by
      obtain ⟨v', hv', _⟩ := hd i (j + k) cs[j + k] hi (List.getElem?_eq_getElem (by omega))
      rw [← Nat.add_assoc] at hv'
      simp [World.cell?, hh, hv', Array.getD_eq_getD_getElem?]
    refine ⟨.agg ((List.range m).map fun k => vs.getD (i * n + j + k) undef).toArray, by simp only [execOp, Instr.loadAt, Sem.run_bind, he, Instr.sureAddr, Sem.run_pure, Result.andThen, run_loadVarN ht hc], .d _ _ (.agg _ _ (by simp; omega) ?_)⟩
    intro k x y hx hy
    simp only [List.getElem?_map, Option.map_eq_some_iff] at hx
    obtain ⟨col, hcol, rfl⟩ := hx
    rw [List.getElem?_take] at hcol
    split at hcol
    · rename_i hk
      rw [List.getElem?_drop] at hcol
      simp only [List.getElem?_map, Option.map_eq_some_iff] at hy
      obtain ⟨k', hk', rfl⟩ := hy
      rw [List.getElem?_range hk] at hk'
      injection hk' with hk'; subst hk'
      obtain ⟨v', hv', hd'⟩ := hd i (j + k) col hi hcol
      rw [← Nat.add_assoc] at hv'
      simpa [Array.getD_eq_getD_getElem?, hv'] using hd'
    · cases hcol
/-- A whole array of plain cells. -/
theorem Pure.loadArr {l len : Nat} {r : Col} (ht : tyOK P t true len = true) (e1 : Ev S c x (.loc l 0)) (hb : S.get (bk l) = some (.blk (.cols 1 len [r]))) : Pure P S [l] ⟨d, .load t x, ty, pos, af, gd⟩ c (.d (.agg ((List.range len).map r.at))) := by
  refine ⟨(fun _ h => nomatch h), fun E V M a w h hc => ?_⟩
  have h1 := h.opd x (by simp [Op.operands]) _ e1
  obtain ⟨_, vs, tt, hh, hs, _, _, hd⟩ := h.blk l (by simp) _ hb
  generalize he : a.eval x = v at h1
  generalize a.eval = ρ at *
  cases h1 with
  | loc _ _ =>
    have hc : ∀ k, k < len → w.cell? ⟨V.ρ l, 0 + k, none⟩ = some (vs.getD k undef) := fun k hk => by
      have : k < vs.size := by omega
      simp [World.cell?, hh, this, Array.getD]
    refine ⟨.agg ((List.range len).map fun k => vs.getD k undef).toArray, by simp only [execOp, Instr.loadAt, Sem.run_bind, he, Instr.sureAddr, Sem.run_pure, Result.andThen, run_loadVarN ht hc], .d _ _ (.agg _ _ (by simp) ?_)⟩
    intro k x y hx hy
    simp only [List.getElem?_map, Option.map_eq_some_iff] at hx hy
    obtain ⟨k1, hk1, rfl⟩ := hx
    obtain ⟨k2, hk2, rfl⟩ := hy
    rw [hk1] at hk2
    injection hk2 with hk2; subst hk2
    have hk : k1 < len := by simpa using List.mem_of_getElem? hk1
    obtain ⟨v', hv', hd'⟩ := hd k1 0 r hk (by simp)
    simp only [Nat.mul_one, Nat.add_zero] at hv'
    simpa [Array.getD_eq_getD_getElem?, hv'] using hd'

/-! Elements of slices. -/
theorem elemOK_of {n : Nat} (h : elemOK P t n = true) : ∃ e i, P.underlying t = some (.slice e) ∧ P.info? e = some i ∧ i.size = n := by
  unfold elemOK at h
  split at h
  · rename_i e hu
    cases hi : P.info? e with
    | none => rw [hi] at h; simp at h
    | some i => rw [hi] at h; exact ⟨e, i, hu, hi, Nat.eq_of_beq_eq_true h⟩
  · cases h
theorem run_indexAt_slice {n : Nat} (h : elemOK P t n = true) {w : World} {b o len cap : Nat} {k : IntKind} {i : Int} (h0 : 0 ≤ i) (h1 : i.toNat < len) :
    (Instr.indexAt t (.slice (some ⟨b, o, none⟩) len cap) (.int k i)).run P w = .ok (.pointer (some ⟨b, o + i.toNat * n, none⟩)) w := by
  obtain ⟨e, inf, hu, hi, hn⟩ := elemOK_of h
  have hsz : (sizeOf e).run P w = .ok n w := by rw [run_sizeOf _ hi]; simp [Program.cellsOf, hi, hn]
  have hlt : i < (len : Int) := by omega
  simp [Instr.indexAt, asIntOf, run_underlying hu, hsz, h0, hlt, addr_add]
theorem Pure.indexRows {n len : Nat} {g : Nat → List D} {k : IntKind} {i : Int} (ht : elemOK P t n = true) (e1 : Ev S c x (.d (.rows n len g))) (e2 : Ev S c y (iv k i)) (hi : c = true → 0 ≤ i ∧ i.toNat < len) :
    Pure P S [] ⟨d, .indexAddr t x y, ty, pos, af, gd⟩ c (.rp (g i.toNat)) := by
  refine ⟨(fun _ h => nomatch h), fun E V M a w h hc => ?_⟩
  obtain ⟨h0, hlt⟩ := hi hc
  have h1 := h.opd x (by simp [Op.operands]) _ e1
  have h2 := h.val (by simp [Op.operands]) e2
  generalize he : a.eval x = v at h1
  generalize a.eval = ρ at *
  cases h1 with
  | d _ _ h1 =>
    cases h1 with
    | emp => omega
    | rows _ _ _ b o cap hcap hl f hm hd =>
      refine ⟨_, by simp only [execOp, he, h2, Sem.run_bind, run_indexAt_slice ht h0 hlt, Result.andThen]; rfl, .rp _ b _ (f i.toNat) (fun j hj => ?_) (fun j x hx => hd _ j x hlt hx)⟩
      rw [hl _ hlt] at hj
      have := hm _ j hlt hj
      rwa [← Nat.add_assoc] at this
theorem Pure.indexOwn {l n len : Nat} {k : IntKind} {i : Int} (ht : elemOK P t n = true) (e1 : Ev S c x (.own l len)) (e2 : Ev S c y (iv k i)) (hi : c = true → 0 ≤ i ∧ i.toNat < len) :
    Pure P S [] ⟨d, .indexAddr t x y, ty, pos, af, gd⟩ c (.locr l n i.toNat 0) := by
  refine ⟨(fun _ h => nomatch h), fun E V M a w h hc => ?_⟩
  obtain ⟨h0, hlt⟩ := hi hc
  have h1 := h.opd x (by simp [Op.operands]) _ e1
  have h2 := h.val (by simp [Op.operands]) e2
  generalize he : a.eval x = v at h1
  generalize a.eval = ρ at *
  cases h1 with
  | own _ _ cap hk hcap =>
    refine ⟨_, by simp only [execOp, he, h2, Sem.run_bind, run_indexAt_slice ht h0 hlt, Result.andThen]; rfl, ?_⟩
    have := Den.locr (V := V) (M := M) l n i.toNat 0
    simpa using this
  | ownNil => omega
theorem Pure.indexSl {l n lo len : Nat} {k : IntKind} {i : Int} (ht : elemOK P t n = true) (e1 : Ev S c x (.sl l n lo len)) (e2 : Ev S c y (iv k i)) (hi : c = true → 0 ≤ i ∧ i.toNat < len) :
    Pure P S [] ⟨d, .indexAddr t x y, ty, pos, af, gd⟩ c (.locr l n (lo + i.toNat) 0) := by
  refine ⟨(fun _ h => nomatch h), fun E V M a w h hc => ?_⟩
  obtain ⟨h0, hlt⟩ := hi hc
  have h1 := h.opd x (by simp [Op.operands]) _ e1
  have h2 := h.val (by simp [Op.operands]) e2
  generalize he : a.eval x = v at h1
  generalize a.eval = ρ at *
  cases h1 with
  | sl _ _ _ _ cap hcap hk =>
    refine ⟨_, by simp only [execOp, he, h2, Sem.run_bind, run_indexAt_slice ht h0 hlt, Result.andThen]; rfl, ?_⟩
    have := Den.locr (V := V) (M := M) l n (lo + i.toNat) 0
    rw [Nat.add_mul, Nat.add_zero] at this
    exact this
  | slEmp => omega
/-- An element of an array that lies in memory. -/
theorem Pure.indexArr {l n len : Nat} {k : IntKind} {i : Int} {agg : Bool} (ht : arrOK P t len agg n = true) (e1 : Ev S c x (.loc l 0)) (e2 : Ev S c y (iv k i)) (hi : c = true → 0 ≤ i ∧ i.toNat < len) :
    Pure P S [] ⟨d, .indexAddr t x y, ty, pos, af, gd⟩ c (.locr l n i.toNat 0) := by
  refine ⟨(fun _ h => nomatch h), fun E V M a w h hc => ?_⟩
  obtain ⟨h0, hlt⟩ := hi hc
  have h1 := h.opd x (by simp [Op.operands]) _ e1
  have h2 := h.val (by simp [Op.operands]) e2
  generalize he : a.eval x = v at h1
  generalize a.eval = ρ at *
  cases h1 with
  | loc _ _ =>
    unfold arrOK at ht
    split at ht
    · rename_i len' e hu
      simp only [Bool.and_eq_true] at ht
      have hlen := Nat.eq_of_beq_eq_true ht.1
      subst hlen
      have hlt' : i < (len' : Int) := by omega
      refine ⟨.pointer (some ⟨V.ρ l, i.toNat * n, none⟩), by simp [execOp, he, h2, Instr.indexAt, asIntOf, run_underlying hu, Instr.sureAddr, tyOK_sizeOf ht.2, h0, hlt', addr_add], ?_⟩
      have := Den.locr (V := V) (M := M) l n i.toNat 0
      simpa using this
    · cases ht

/-! Parts of values. -/
/-- An element of an array value, each of one cell. -/
theorem Pure.index1 {l : List D} {len n : Nat} {k : IntKind} {i : Int} {r : D} (ht : arrOK P t len false n = true) (hn : n = 1) (e1 : Ev S c x (.d (.agg l))) (e2 : Ev S c y (iv k i)) (hi : c = true → 0 ≤ i ∧ i.toNat < len) (hr : c = true → l[i.toNat]? = some r) :
    Pure P S [] ⟨d, .index t x y, ty, pos, af, gd⟩ c (.d r) := by
  subst hn
  refine ⟨(fun _ h => nomatch h), fun E V M a w h hc => ?_⟩
  obtain ⟨h0, hlt⟩ := hi hc
  have hr := hr hc
  have h1 := h.opd x (by simp [Op.operands]) _ e1
  have h2 := h.val (by simp [Op.operands]) e2
  generalize he : a.eval x = v at h1
  generalize a.eval = ρ at *
  cases h1 with
  | d _ _ h1 =>
    cases h1 with
    | agg _ vs hl hd =>
      unfold arrOK at ht
      split at ht
      · rename_i len' e hu
        simp only [Bool.and_eq_true] at ht
        have hlen := Nat.eq_of_beq_eq_true ht.1
        subst hlen
        have hlt' : i < (len' : Int) := by omega
        have hlv : i.toNat < vs.length := by have := (List.getElem?_eq_some_iff.1 hr).1; omega
        refine ⟨vs[i.toNat], ?_, .d _ _ (hd _ r _ hr (List.getElem?_eq_getElem hlv))⟩
        simp [execOp, he, h2, Instr.index, asIntOf, run_underlying hu, h0, hlt', part, tyOK_agg ht.2, tyOK_sizeOf ht.2, hlv]
      · cases ht
/-! Slices of slices. -/
/-- x[lo:hi] of immutable data. -/
theorem run_slice {e : TypeId} {n : Nat} (hu : P.underlying t = some (.slice e)) (hsz : ∀ w, (sizeOf e).run P w = .ok n w) {w : World} {a : Option Addr} {len cap : Nat} {lo hi : Option Value} {l h : Nat}
    (hlo : (lo = none ∧ l = 0) ∨ ∃ k, lo = some (.int k l)) (hhi : (hi = none ∧ h = len) ∨ ∃ k, hi = some (.int k h)) (h1 : l ≤ h) (h2 : h ≤ cap) :
    (Instr.sliceAt t (.slice a len cap) lo hi none).run P w = .ok (.slice (if cap = l then a else a.map (·.add (l * n))) (h - l) (cap - l)) w := by
  rcases hlo with ⟨rfl, rfl⟩ | ⟨k, rfl⟩ <;> rcases hhi with ⟨rfl, rfl⟩ | ⟨k', rfl⟩ <;>
    simp [Instr.sliceAt, Instr.slice, run_underlying hu, Instr.sliceBounds, Instr.sliceBound, asIntOf, hsz, h1, h2]
end

end Go.Proofs.YtmdfamnnnoieaaaDoor

/- New memory: variables, boxes, structs and slices that are built, make. No program in sight. -/
namespace Go.Proofs.YtmdfamnnnoieaaaDoor
open Go
set_option linter.unusedVariables false
set_option linter.unusedSimpArgs false
variable {P : Program} {S : St} {ro : Ro} {ops : Array Oper}

/-- Cell by cell. -/
structure DenL (V : Vals) (M : Mem) (l : List AV) (vs : List Value) : Prop where
  len : l.length = vs.length
  at' : ∀ (j : Nat) (x : AV) (y : Value), l[j]? = some x → vs[j]? = some y → Den V M x y

def spliceL {α : Type} (l : List α) (o : Nat) (us : List α) : List α := l.take o ++ us ++ l.drop (o + us.length)
theorem spliceL_length {α : Type} {l : List α} {o : Nat} {us : List α} (h : o + us.length ≤ l.length) : (spliceL l o us).length = l.length := by
  simp [spliceL]; omega
theorem spliceL_get {α : Type} {l : List α} {o : Nat} {us : List α} (h : o + us.length ≤ l.length) (j : Nat) : (spliceL l o us)[j]? = if o ≤ j ∧ j < o + us.length then us[j - o]? else l[j]? := by
  unfold spliceL
  by_cases h1 : j < o
  · rw [if_neg (by omega), List.append_assoc, List.getElem?_append_left (by simp; omega), List.getElem?_take_of_lt h1]
  · by_cases h2 : j < o + us.length
    · rw [if_pos ⟨by omega, h2⟩, List.append_assoc, List.getElem?_append_right (by simp; omega), List.getElem?_append_left (by simp; omega)]
      congr 1
      simp
      omega
    · rw [if_neg (by omega), List.getElem?_append_right (by simp; omega), List.getElem?_drop]
      congr 1
      simp
      omega
theorem DenL.splice {V : Vals} {M : Mem} {l us : List AV} {vs ws : List Value} {o : Nat} (h : DenL V M l vs) (k : DenL V M us ws) (ho : o + us.length ≤ l.length) : DenL V M (spliceL l o us) (spliceL vs o ws) where
  len := by rw [spliceL_length ho, spliceL_length (by rw [← k.len, ← h.len]; exact ho), h.len]
  at' := fun j x y hx hy => by
    rw [spliceL_get ho] at hx
    rw [spliceL_get (by rw [← k.len, ← h.len]; exact ho)] at hy
    rw [← k.len] at hy
    split at hx
    · rename_i hj; rw [if_pos hj] at hy; exact k.at' _ _ _ hx hy
    · rename_i hj; rw [if_neg hj] at hy; exact h.at' _ _ _ hx hy

/-- The cells of a value. -/
def single : Value → Bool
  | .agg _ | .tuple _ => false
  | _ => true
def AV.cellsL : AV → Option (List AV)
  | .d (.agg l) => some (l.map .d)
  | .d (.v u) => bif single u then some [.d (.v u)] else none
  | .agg l => some l
  | .tup _ => none
  | .gd _ _ => none
  | x => some [x]
theorem cells_single {u : Value} (h : single u = true) : u.cells = #[u] := by cases u <;> simp_all [single, Value.cells]
theorem cells_of {V : Vals} {M : Mem} {x : AV} {v : Value} {l : List AV} (h : Den V M x v) (hl : x.cellsL = some l) : DenL V M l v.cells.toList := by
  have one : ∀ {x : AV} {v : Value}, Den V M x v → v.cells = #[v] → DenL V M [x] v.cells.toList := fun {x v} h e => by
    rw [e]
    refine ⟨rfl, fun j y z hy hz => ?_⟩
    cases j with
    | zero => simp at hy hz; subst hy; subst hz; exact h
    | succ j => simp at hy
  cases h with
  | d x v h =>
    cases h with
    | v =>
      simp only [AV.cellsL] at hl
      cases hs : single v with
      | true => rw [hs] at hl; simp only [cond_true, Option.some.injEq] at hl; subst hl; exact one (.d _ _ (.v _)) (cells_single hs)
      | false => rw [hs] at hl; simp at hl
    | agg l' vs hl' hd =>
      simp only [AV.cellsL, Option.some.injEq] at hl
      subst hl
      refine ⟨by simpa [Value.cells] using hl', fun j y z hy hz => ?_⟩
      simp only [List.getElem?_map, Option.map_eq_some_iff] at hy
      obtain ⟨y', hy', rfl⟩ := hy
      exact .d _ _ (hd j y' z hy' hz)
    | emp n g a cap => simp only [AV.cellsL, Option.some.injEq] at hl; subst hl; exact one (.d _ _ (.emp n g a cap)) rfl
    | rows n len g b o cap hc hl' c hm h => simp only [AV.cellsL, Option.some.injEq] at hl; subst hl; exact one (.d _ _ (.rows n len g b o cap hc hl' c hm h)) rfl
  | agg l' vs hl' hd => simp only [AV.cellsL, Option.some.injEq] at hl; subst hl; exact ⟨hl', hd⟩
  | loc l j => simp only [AV.cellsL, Option.some.injEq] at hl; subst hl; exact one (.loc l j) rfl
  | locr l n i j => simp only [AV.cellsL, Option.some.injEq] at hl; subst hl; exact one (.locr l n i j) rfl
  | rp l b o c hm h => simp only [AV.cellsL, Option.some.injEq] at hl; subst hl; exact one (.rp l b o c hm h) rfl
  | own l len cap hk hc => simp only [AV.cellsL, Option.some.injEq] at hl; subst hl; exact one (.own l len cap hk hc) rfl
  | ownNil l hk => simp only [AV.cellsL, Option.some.injEq] at hl; subst hl; exact one (.ownNil l hk) rfl
  | sl l n lo len cap hc hk => simp only [AV.cellsL, Option.some.injEq] at hl; subst hl; exact one (.sl l n lo len cap hc hk) rfl
  | slEmp l n lo a cap => simp only [AV.cellsL, Option.some.injEq] at hl; subst hl; exact one (.slEmp l n lo a cap) rfl
  | fn f cs vs hl' hd => simp only [AV.cellsL, Option.some.injEq] at hl; subst hl; exact one (.fn f cs vs hl' hd) rfl
  | yld l => simp only [AV.cellsL, Option.some.injEq] at hl; subst hl; exact one (.yld l) rfl
  | sa l n lo len cap hc => simp only [AV.cellsL, Option.some.injEq] at hl; subst hl; exact one (.sa l n lo len cap hc) rfl
  | bd f cs vs hl' hd => simp only [AV.cellsL, Option.some.injEq] at hl; subst hl; exact one (.bd f cs vs hl' hd) rfl
  | mp l => simp only [AV.cellsL, Option.some.injEq] at hl; subst hl; exact one (.mp l) rfl
  | tup => simp [AV.cellsL] at hl
  | gd => simp [AV.cellsL] at hl

theorem DenL.relab {V : Vals} {M : Mem} {l : List AV} {vs : List Value} (h : DenL V M l vs) {m : Nat} (b : Nat) (k : Option Nat) (hm : ∀ x ∈ l, ¬ Ment x m) : DenL (V.set m b k) M l vs :=
  ⟨h.len, fun j x y hx hy => (h.at' j x y hx hy).relab b k (hm x (List.mem_of_getElem? hx))⟩

/-! A general law for operations that make one block. -/
theorem axOp_new {S0 : St} {o : Oper} {t l : Nat} {bl ds : List Nat} {B : Blk} {x : AV} (hdst : o.dst = some t) (hgd : o.guard = none) (hnd : ∀ d, o.op ≠ .defer d)
    (h : ∀ E V M a w, Given E S0 o bl true V M a w → ∃ w' v κ, (execOp a.eval o).run P w = .ok (.value v) w' ∧ WStep w w' w.heap.size ∧ BlkAt (V.set l w.heap.size κ) M w' l B ∧ Den (V.set l w.heap.size κ) M x v) :
    AxOp P ro ops o ⟨opNames o ++ bl.map bk, S0, postOf ds l B t x, [l]⟩ := by
  intro E S a w hs hf hok ⟨V, M, ha, hw⟩ Q hpn
  have ht : t < E.nt := hok.2 t (names_postOf.2 (.inr (.inr rfl)))
  have hk : l ∉ E.keep := hok.1 l (by simp)
  obtain ⟨w', v, κ, hr, hst, hB, hx⟩ := h E V M a w (given_of (rn := opNames o ++ bl.map bk) hs (fun n hn => by simp [hn]) (fun l hl => by simp only [List.mem_append, List.mem_map]; right; exact ⟨l, hl, rfl⟩) rfl ha hw)
  unfold stepIn
  rw [if_pos (by simp [Region.wanted, hgd])]
  refine wpIn_of_value hnd hr ?_
  rw [hdst]
  exact rep_step ha hw hst (.inl rfl) (hf l (by simp)) hk ht hB hx

theorem Trace.new {S0 S' : St} {o : Oper} {r : List Oper} {L : List Ax} {t l : Nat} {bl : List Nat} (ds : List Nat) {B : Blk} {x : AV} (ha : AxOp P ro ops o ⟨opNames o ++ bl.map bk, S0, postOf ds l B t x, [l]⟩)
    (hf : freshB ⟨opNames o ++ bl.map bk, S0, postOf ds l B t x, [l]⟩ S0 = true) (h : Trace P ro ops r (S0.after ds l B t x) L S') :
    Trace P ro ops (o :: r) S0 (⟨opNames o ++ bl.map bk, S0, postOf ds l B t x, [l]⟩ :: L) S' :=
  .cons ha (fun _ _ => rfl) (fresh_of hf) (after_upd _ _ _ _ _ _) h

/-! Zero values, variables, boxes. -/
def ZeroIs (P : Program) (t : TypeId) (zs : List Value) : Prop := (P.info? t).map (fun i => i.zero.map fun z => z.cells.toList) = some (some zs)
theorem zeroIs_run {t : TypeId} {zs : List Value} (h : ZeroIs P t zs) : ∃ z, z.cells.toList = zs ∧ ∀ w, (zeroValue t).run P w = .ok z w := by
  unfold ZeroIs at h
  cases hi : P.info? t with
  | none => rw [hi] at h; simp at h
  | some i =>
    rw [hi] at h
    cases hz : i.zero with
    | none => simp [hz] at h
    | some z =>
      simp [hz] at h
      exact ⟨z, h, fun w => by simp [zeroValue, typeInfo, hi, hz]⟩
def CellsAs (B : Blk) (zs : List Value) : Prop := ∀ V M w l t, V.κ l ≠ none → w.heap[V.ρ l]? = some (.cells zs.toArray t (0, 0)) → BlkAt V M w l B
theorem cellsAs_vals (zs : List Value) : CellsAs (.cells (zs.map fun z => .d (.v z))) zs := by
  intro V M w l t hk hb
  refine ⟨hk, zs.toArray, t, hb, by simp, fun j x y hx hy => ?_⟩
  simp only [List.getElem?_map, Option.map_eq_some_iff] at hx
  obtain ⟨z, hz, rfl⟩ := hx
  simp only [List.getElem?_toArray] at hy
  rw [hz] at hy; injection hy with hy; subst hy
  exact .d _ _ (.v _)
theorem cellsAs_data (zs : List Value) : CellsAs (.data (zs.map .v)) zs := by
  intro V M w l t hk hb
  have := cellsAs_vals zs V M w l t hk hb
  show cellsAt V M w l ((zs.map D.v).map AV.d)
  rw [List.map_map]
  exact this
theorem cellsAs_ints (n : Nat) (k : IntKind) (m : Int) : CellsAs (.cols 1 n [.ints k (List.replicate n m)]) (List.replicate n (.int k m)) := by
  intro V M w l t hk hb
  refine ⟨hk, _, t, hb, by simp, rfl, by simp [Col.len], fun i j c hi hc => ?_⟩
  cases j with
  | zero =>
    simp at hc; subst hc
    exact ⟨.int k m, by simp [hi], by simp [Col.at, hi]; exact .v _⟩
  | succ j => simp at hc
theorem run_newVar {t : TypeId} {v : Value} (w : World) : (newVar t v).run P w = .ok ⟨w.heap.size, 0, none⟩ (w.alloc (.cells v.cells t)) := by
  simp [newVar, newRow]
theorem heap_alloc (w : World) (o : Obj) : (w.alloc o).heap[w.heap.size]? = some o := by
  show (w.heap.push o)[w.heap.size]? = some o
  simp

section
variable {o : Oper} {x y z : Operand} {d t : Nat} {ty e s : TypeId} {pos : String} {af : Array Edge}

theorem Trace.alloc {S' : St} {r : List Oper} {L : List Ax} (l : Nat) (ds : List Nat) {zs : List Value} (B : Blk) (hz : ZeroIs P e zs) (hB : CellsAs B zs)
    (hf : freshB ⟨opNames ⟨some d, .alloc e, ty, pos, af, none⟩, S, postOf ds l B d (.loc l 0), [l]⟩ S = true) (h : Trace P ro ops r (S.after ds l B d (.loc l 0)) L S') :
    Trace P ro ops (⟨some d, .alloc e, ty, pos, af, none⟩ :: r) S (⟨opNames ⟨some d, .alloc e, ty, pos, af, none⟩ ++ ([] : List Nat).map bk, S, postOf ds l B d (.loc l 0), [l]⟩ :: L) S' := by
  refine Trace.new ds (axOp_new rfl rfl (fun _ h => nomatch h) fun E V M a w h => ?_) (by simpa using hf) h
  obtain ⟨z, hzs, hr⟩ := zeroIs_run hz
  refine ⟨w.alloc (.cells z.cells e), .pointer (some ⟨w.heap.size, 0, none⟩), some 0, ?_, WStep.alloc w _, ?_, ?_⟩
  · simp only [execOp, Instr.alloc, Sem.run_bind, hr, Result.andThen, run_newVar, Sem.run_pure]
  · refine hB _ M _ l e (by simp) ?_
    rw [Vals.set_ρ, heap_alloc, ← hzs, Array.toArray_toList]
  · have := Den.loc (V := V.set l w.heap.size (some 0)) (M := M) l 0
    rwa [Vals.set_ρ] at this

theorem Trace.box {S' : St} {r : List Oper} {L : List Ax} (l : Nat) (ds : List Nat) {u : AV} {cs : List AV} (e1 : Ev S true x u) (hcs : u.cellsL = some cs) (hm : AV.ments l cs = false)
    (hf : freshB ⟨opNames ⟨some d, .box e x, ty, pos, af, none⟩, S, postOf ds l (.cells cs) d (.loc l 0), [l]⟩ S = true) (h : Trace P ro ops r (S.after ds l (.cells cs) d (.loc l 0)) L S') :
    Trace P ro ops (⟨some d, .box e x, ty, pos, af, none⟩ :: r) S (⟨opNames ⟨some d, .box e x, ty, pos, af, none⟩ ++ ([] : List Nat).map bk, S, postOf ds l (.cells cs) d (.loc l 0), [l]⟩ :: L) S' := by
  refine Trace.new ds (axOp_new rfl rfl (fun _ h => nomatch h) fun E V M a w h => ?_) (by simpa using hf) h
  have h1 := cells_of (h.opd x (by simp [Op.operands]) _ e1) hcs
  generalize a.eval = ρ at *
  refine ⟨w.alloc (.cells (ρ x).cells e), .pointer (some ⟨w.heap.size, 0, none⟩), some 0, ?_, WStep.alloc w _, ?_, ?_⟩
  · simp only [execOp, Instr.box, Sem.run_bind, Result.andThen, run_newVar, Sem.run_pure]
  · have h2 := h1.relab (m := l) w.heap.size (some 0) (fun x hx hmx => by rw [ments_of_mem hx (ment_of hmx)] at hm; cases hm)
    refine ⟨by simp, (ρ x).cells, e, by rw [Vals.set_ρ, heap_alloc], by simpa using h2.len.symm, fun j x y hx hy => h2.at' j x y hx (by simpa using hy)⟩
  · have := Den.loc (V := V.set l w.heap.size (some 0)) (M := M) l 0
    rwa [Vals.set_ρ] at this
end

def dsOfAV : AV → Option (List D)
  | .d (.agg l) => some l
  | .d (.v u) => bif single u then some [.v u] else none
  | .d (.rows a b c) => some [.rows a b c]
  | _ => none
section
variable {o : Oper} {x y z : Operand} {d t : Nat} {ty e s : TypeId} {pos : String} {af : Array Edge}
theorem dsOfAV_cells {u : AV} {ds : List D} (h : dsOfAV u = some ds) : u.cellsL = some (ds.map .d) := by
  cases u with
  | d x =>
    cases x with
    | v u => simp only [dsOfAV] at h; cases hs : single u with
      | true => rw [hs] at h; simp at h; subst h; simp [AV.cellsL, hs]
      | false => rw [hs] at h; simp at h
    | rows => simp only [dsOfAV, Option.some.injEq] at h; subst h; rfl
    | agg l => simp only [dsOfAV, Option.some.injEq] at h; subst h; rfl
  | _ => simp [dsOfAV] at h
/-- A variable of plain data. -/
theorem Trace.boxD {S' : St} {r : List Oper} {L : List Ax} (l : Nat) (ds : List Nat) {u : AV} {dl : List D} (e1 : Ev S true x u) (hcs : dsOfAV u = some dl)
    (hf : freshB ⟨opNames ⟨some d, .box e x, ty, pos, af, none⟩, S, postOf ds l (.data dl) d (.loc l 0), [l]⟩ S = true) (h : Trace P ro ops r (S.after ds l (.data dl) d (.loc l 0)) L S') :
    Trace P ro ops (⟨some d, .box e x, ty, pos, af, none⟩ :: r) S (⟨opNames ⟨some d, .box e x, ty, pos, af, none⟩ ++ ([] : List Nat).map bk, S, postOf ds l (.data dl) d (.loc l 0), [l]⟩ :: L) S' := by
  refine Trace.new ds (axOp_new rfl rfl (fun _ h => nomatch h) fun E V M a w h => ?_) (by simpa using hf) h
  have h1 := cells_of (h.opd x (by simp [Op.operands]) _ e1) (dsOfAV_cells hcs)
  generalize a.eval = ρ at *
  refine ⟨w.alloc (.cells (ρ x).cells e), .pointer (some ⟨w.heap.size, 0, none⟩), some 0, ?_, WStep.alloc w _, ?_, ?_⟩
  · simp only [execOp, Instr.box, Sem.run_bind, Result.andThen, run_newVar, Sem.run_pure]
  · have h2 := h1.relab (m := l) w.heap.size (some 0) (fun x hx hmx => by obtain ⟨y, _, rfl⟩ := List.mem_map.1 hx; cases hmx)
    refine ⟨by simp, (ρ x).cells, e, by rw [Vals.set_ρ, heap_alloc], by simpa using h2.len.symm, fun j x y hx hy => h2.at' j x y hx (by simpa using hy)⟩
  · have := Den.loc (V := V.set l w.heap.size (some 0)) (M := M) l 0
    rwa [Vals.set_ρ] at this
end

/-! 'fill': parts laid into cells. -/
theorem fold_splice (us : List Value) : ∀ (off : Nat) (k : Nat) (cells : List Value), off + k + us.length ≤ cells.length →
    (us.zipIdx k).foldl (fun (cs : Array Value) (x : Value × Nat) => cs.setIfInBounds (off + x.2) x.1) cells.toArray = (spliceL cells (off + k) us).toArray := by
  induction us with
  | nil => intro off k cells h; simp [spliceL]
  | cons u r ih =>
    intro off k cells h
    simp only [List.zipIdx_cons, List.foldl_cons]
    have hlt : off + k < cells.length := by simp at h; omega
    have e1 : cells.toArray.setIfInBounds (off + k) u = (cells.set (off + k) u).toArray := by simp
    rw [e1, ih off (k + 1) _ (by simp at h ⊢; omega)]
    congr 1
    apply List.ext_getElem?
    intro j
    rw [spliceL_get (by simp at h ⊢; omega), spliceL_get (by simpa [Nat.add_assoc] using h)]
    by_cases h1 : j = off + k
    · subst h1
      rw [if_neg (by omega), if_pos (by simp)]
      simp [hlt]
    · rw [List.getElem?_set_ne (Ne.symm h1)]
      by_cases h2 : off + k + 1 ≤ j ∧ j < off + k + 1 + r.length
      · rw [if_pos (by omega), if_pos (by simp; omega)]
        have : j - (off + k) = (j - (off + (k + 1))) + 1 := by omega
        rw [this]; simp
      · rw [if_neg (by omega), if_neg (by simp; omega)]

theorem fill_cons {place : Nat → Option (Nat × Nat)} {cells : List Value} {i off size : Nat} {v : Value} {rest : List (Nat × Value)} (hp : place i = some (off, size)) (hs : v.cells.size = size) (ho : off + size ≤ cells.length) :
    Instr.fill place cells.toArray ((i, v) :: rest) = Instr.fill place (spliceL cells off v.cells.toList).toArray rest := by
  subst hs
  simp only [Instr.fill, hp]
  have hb : (decide (v.cells.size ≠ v.cells.size) || decide (off + v.cells.size > cells.toArray.size)) = false := by simp; omega
  simp only [hb, Bool.false_eq_true, if_false]
  have := fold_splice v.cells.toList off 0 cells (by simpa using ho)
  simp only [Nat.add_zero] at this
  rw [← this]
  congr 1
  rw [← Array.foldl_toList, Array.toList_zipIdx]

/-- What 'fill' comes to, part by part, on abstract cells. -/
inductive Fills (S : St) : (Nat → Option (Nat × Nat)) → List AV → List (Nat × Operand) → List AV → Prop
  | nil (place : Nat → Option (Nat × Nat)) (l : List AV) : Fills S place l [] l
  | cons {place : Nat → Option (Nat × Nat)} {l l' us : List AV} {i off : Nat} {x : Operand} {u : AV} {r : List (Nat × Operand)} (e : Ev S true x u) (hu : u.cellsL = some us) (hp : place i = some (off, us.length)) (ho : off + us.length ≤ l.length)
      (h : Fills S place (spliceL l off us) r l') : Fills S place l ((i, x) :: r) l'

theorem fills_run {place : Nat → Option (Nat × Nat)} {l l' : List AV} {ps : List (Nat × Operand)} (h : Fills S place l ps l') {V : Vals} {M : Mem} {ρ : Operand → Value} :
    (∀ p ∈ ps, ∀ y, Ev S true p.2 y → Den V M y (ρ p.2)) → ∀ {vs : List Value}, DenL V M l vs → ∃ vs', Instr.fill place vs.toArray (ps.map fun p => (p.1, ρ p.2)) = some vs'.toArray ∧ DenL V M l' vs' := by
  induction h with
  | nil l => intro _ vs hv; exact ⟨vs, rfl, hv⟩
  | @cons l l' us i off x u r e hu hp ho h ih =>
    intro hd vs hv
    have h1 := cells_of (hd (i, x) (by simp) u e) hu
    have hsz : (ρ x).cells.size = us.length := by simpa using h1.len.symm
    obtain ⟨vs', hf, hv'⟩ := ih (fun p hp => hd p (by simp [hp])) (hv.splice h1 ho)
    refine ⟨vs', ?_, hv'⟩
    rw [List.map_cons, fill_cons hp hsz (by rw [← hv.len]; exact ho)]
    exact hf

def vals (zs : List Value) : List AV := zs.map fun z => .d (.v z)
theorem denL_vals (V : Vals) (M : Mem) (zs : List Value) : DenL V M (vals zs) zs :=
  ⟨by simp [vals], fun j x y hx hy => by
    simp only [vals, List.getElem?_map, Option.map_eq_some_iff] at hx
    obtain ⟨z, hz, rfl⟩ := hx
    rw [hz] at hy; injection hy with hy; subst hy
    exact .d _ _ (.v _)⟩

/-- Where each field of a struct, or each element of an array, lies. -/
def PlacesAre (P : Program) (t : TypeId) (place : Nat → Option (Nat × Nat)) : Prop :=
  (∃ fs places, P.underlying t = some (.struct fs) ∧ (∀ w, (fs.mapM fun f => (do pure (f.offset, ← sizeOf f.type) : Sem (Nat × Nat))).run P w = .ok places w) ∧ place = (places[·]?)) ∨
  (∃ n e size, P.underlying t = some (.array n e) ∧ (∀ w, (sizeOf e).run P w = .ok size w) ∧ place = fun i => some (i * size, size))

theorem Pure.build {c : Bool} {parts : Array (Nat × Operand)} {zs : List Value} {place : Nat → Option (Nat × Nat)} {l : List AV} {d : Option Tmp} {t ty : TypeId} {pos : String} {af : Array Edge} (hz : ZeroIs P t zs) (hp : PlacesAre P t place) (hf : Fills S place (vals zs) parts.toList l)
    (hc : c = true) : Pure P S [] ⟨d, .build t parts, ty, pos, af, none⟩ c (mkAgg l) := by
  subst hc
  refine ⟨(fun _ h => nomatch h), fun E V M a w h _ => ?_⟩
  have hop : ∀ p ∈ parts.toList, ∀ y, Ev S true p.2 y → Den V M y (a.eval p.2) := fun p hp y hy => h.opd p.2 (by simp only [Op.operands, List.mem_toArray, List.mem_map]; exact ⟨p, hp, rfl⟩) y hy
  generalize a.eval = ρ at *
  obtain ⟨z, hzs, hr⟩ := zeroIs_run hz
  obtain ⟨vs', hfl, hv'⟩ := fills_run hf hop (denL_vals V M zs)
  have hzc : z.cells = zs.toArray := by rw [← hzs, Array.toArray_toList]
  have hmap : (parts.map fun x => (x.1, ρ x.2)).toList = parts.toList.map fun p => (p.1, ρ p.2) := by simp
  refine ⟨.agg vs'.toArray, ?_, den_mkAgg (.agg _ _ hv'.len hv'.at')⟩
  rcases hp with ⟨fs, places, hu, hpl, rfl⟩ | ⟨n, e, size, hu, hsz, rfl⟩
  · simp only [execOp, Instr.build, Sem.run_bind, hr, run_underlying hu, Result.andThen, hpl, hmap, hzc, hfl, Sem.run_pure]
  · simp only [execOp, Instr.build, Sem.run_bind, hr, run_underlying hu, Result.andThen, hsz, hmap, hzc, hfl, Sem.run_pure]

end Go.Proofs.YtmdfamnnnoieaaaDoor

/- Functions' contracts on abstract states: out of a body's walk; at a call. No program in sight. -/
namespace Go.Proofs.YtmdfamnnnoieaaaDoor
open Go
set_option linter.unusedVariables false
set_option linter.unusedSimpArgs false
variable {P : Program} {S : St} {ro : Ro} {ops : Array Oper}

/-- A call of f: on these arguments, over these blocks (Bs), it returns res and leaves the blocks Bs'. 'keep': labels whose blocks stay where they are. -/
def FnSpec (P : Program) (f : FuncId) (args : List AV) (Bs : St) (res : AV) (Bs' : St) (keep : List Nat) : Prop :=
  ∀ (V : Vals) (M : Mem) (w : World) (passed : List Nat) (vs : List Value), RepW (.of w passed M (V) (keep) 0) Bs V M w → DenL V M args vs →
    Calls P f vs.toArray w fun e w' => ∃ v V' M', e = .returned v ∧ Den V' M' res v ∧ RepW (.of w passed M (V) (keep) 0) Bs' V' M' w'

theorem RepW.env {E E' : Env} {S : St} {V : Vals} {M : Mem} {w : World} (h : RepW E S V M w) (h1 : E'.w0 = E.w0) (h2 : E'.passed = E.passed) (h3 : E'.M0 = E.M0) (h4 : E'.V0 = E.V0) (h5 : E'.keep = E.keep) : RepW E' S V M w := by
  obtain ⟨w0, p, M0, V0, k, n, _⟩ := E
  obtain ⟨w0', p', M0', V0', k', n', _⟩ := E'
  simp only at h1 h2 h3 h4 h5
  subst h1; subst h2; subst h3; subst h4; subst h5
  exact { blks := h.blks, inj := h.inj, sep := h.sep, fresh := h.fresh, bd := h.bd, mem := h.mem, mle := h.mle, glb := h.glb, mnew := h.mnew, keep := h.keep, frame := ⟨h.frame.os, h.frame.tape, h.frame.output, h.frame.size, h.frame.block⟩ }
/-- Slots do not count for the world. -/
theorem RepW.blks_only {E : Env} {S T : St} {V : Vals} {M : Mem} {w : World} (h : RepW E S V M w) (hb : ∀ l B, T.get (bk l) = some (.blk B) → S.get (bk l) = some (.blk B)) : RepW E T V M w := by
  have hh : ∀ l, HasB V T l → HasB V S l := fun l ⟨⟨B, e⟩, k⟩ => ⟨⟨B, hb l B e⟩, k⟩
  exact { blks := fun l B e => h.blks l B (hb l B e), inj := fun l l' a b => h.inj l l' (hh l a) (hh l' b), sep := fun l a => h.sep l (hh l a), fresh := fun l a => h.fresh l (hh l a), bd := fun l a => h.bd l (hh l a),
          mem := h.mem, mle := h.mle, glb := h.glb, mnew := h.mnew, keep := h.keep, frame := h.frame }

/-- A result variable's value. -/
inductive ResVar (P : Program) (S : St) : ResultVar → AV → Prop
  | tmp {t : Nat} {x : AV} (h : S.get (sl t) = some (.av x)) : ResVar P S (.tmp t) x
  | cellN {a l n : Nat} {ty : TypeId} {cs : List AV} (h : S.get (sl a) = some (.av (.loc l 0))) (hb : S.get (bk l) = some (.blk (.cells cs))) (ht : tyOK P ty true n = true) (hn : n = cs.length) : ResVar P S (.cell a ty) (mkAgg cs)
  | cell1 {a l n : Nat} {ty : TypeId} {cs : List AV} {x : AV} (h : S.get (sl a) = some (.av (.loc l 0))) (hb : S.get (bk l) = some (.blk (.cells cs))) (ht : tyOK P ty false n = true) (hx : cs[0]? = some x) : ResVar P S (.cell a ty) x
  | cellD {a l n : Nat} {ty : TypeId} {ds : List D} (h : S.get (sl a) = some (.av (.loc l 0))) (hb : S.get (bk l) = some (.blk (.data ds))) (ht : tyOK P ty true n = true) (hn : n = ds.length) : ResVar P S (.cell a ty) (.d (.agg ds))
  | cellD1 {a l n : Nat} {ty : TypeId} {ds : List D} {x : D} (h : S.get (sl a) = some (.av (.loc l 0))) (hb : S.get (bk l) = some (.blk (.data ds))) (ht : tyOK P ty false n = true) (hx : ds[0]? = some x) : ResVar P S (.cell a ty) (.d x)
  | arr {a l len : Nat} {ty : TypeId} {r : Col} (h : S.get (sl a) = some (.av (.loc l 0))) (hb : S.get (bk l) = some (.blk (.cols 1 len [r]))) (ht : tyOK P ty true len = true) : ResVar P S (.cell a ty) (.d (.agg ((List.range len).map r.at)))
inductive ResVars (P : Program) (S : St) : List ResultVar → List AV → Prop
  | nil : ResVars P S [] []
  | cons {r : ResultVar} {x : AV} {rs : List ResultVar} {xs : List AV} (h : ResVar P S r x) (t : ResVars P S rs xs) : ResVars P S (r :: rs) (x :: xs)
def resOf : List AV → AV
  | [x] => x
  | xs => .tup xs

def resRun (tmps : Array Value) : ResultVar → Sem Value
  | .tmp t => pure (tmps.getD t undef)
  | .cell b t => do loadVar t (← asAddr (tmps.getD b undef))
theorem results_eq (fn : Func) (tmps : Array Value) : results fn tmps = (do let vs ← fn.results.mapM (resRun tmps); pure (if h : vs.size = 1 then vs[0] else .tuple vs)) := by
  have : (fun (r : ResultVar) => (match r with | .tmp t => pure (tmps.getD t undef) | .cell a t => do loadVar t (← asAddr (tmps.getD a undef)) : Sem Value)) = resRun tmps := by
    funext r; cases r <;> rfl
  rw [← this]
  rfl

theorem resVar_run {E : Env} {S : St} {V : Vals} {M : Mem} {a : Act} {w : World} (ha : RepA E S V M a) (hw : RepW E S V M w) {r : ResultVar} {x : AV} (h : ResVar P S r x) :
    ∃ v, Sem.run P (resRun a.tmps r) w = .ok v w ∧ Den V M x v := by
  cases h with
  | tmp h =>
    obtain ⟨v, hv, hd⟩ := ha.slots _ _ h
    exact ⟨v, by simp [resRun, Array.getD_eq_getD_getElem?, hv], hd⟩
  | @cellN b l n ty cs h hb ht hn =>
    obtain ⟨v, hv, hd⟩ := ha.slots _ _ h
    obtain ⟨_, vs, tt, hh, hs, hd'⟩ := hw.blks _ _ hb
    cases hd with
    | loc _ _ =>
      have hc : ∀ k, k < n → w.cell? ⟨V.ρ l, 0 + k, none⟩ = some (vs.getD k undef) := fun k hk => by
        have : k < vs.size := by omega
        simp [World.cell?, hh, this, Array.getD]
      refine ⟨.agg ((List.range n).map fun k => vs.getD k undef).toArray, ?_, den_mkAgg (.agg _ _ (by simp [hn]) ?_)⟩
      · simp only [resRun, Array.getD_eq_getD_getElem?, hv, Option.getD_some, Sem.run_bind, asAddr, Sem.run_pure, Result.andThen, run_loadVarN ht hc]
      · intro k x y hx hy
        simp only [List.getElem?_map, Option.map_eq_some_iff] at hy
        obtain ⟨k', hk', rfl⟩ := hy
        have hk : k < n := by have := (List.getElem?_eq_some_iff.1 hx).1; omega
        rw [List.getElem?_range hk] at hk'
        injection hk' with hk'; subst hk'
        have : k < vs.size := by omega
        exact hd' k x _ hx (by simp [this, Array.getD])
  | @cell1 b l n ty cs x h hb ht hx =>
    obtain ⟨v, hv, hd⟩ := ha.slots _ _ h
    obtain ⟨_, vs, tt, hh, hs, hd'⟩ := hw.blks _ _ hb
    cases hd with
    | loc _ _ =>
      have hj : 0 < vs.size := by have := (List.getElem?_eq_some_iff.1 hx).1; omega
      have hc : w.cell? ⟨V.ρ l, 0, none⟩ = some vs[0] := by simp [World.cell?, hh, hj]
      refine ⟨vs[0], ?_, hd' 0 x _ hx (Array.getElem?_eq_getElem hj)⟩
      simp only [resRun, Array.getD_eq_getD_getElem?, hv, Option.getD_some, Sem.run_bind, asAddr, Sem.run_pure, Result.andThen, run_loadVar1 ht hc]
  | @cellD b l n ty ds h hb ht hn =>
    obtain ⟨v, hv, hd⟩ := ha.slots _ _ h
    obtain ⟨_, vs, tt, hh, hs, hd'⟩ := hw.blks _ _ hb
    simp only [List.length_map] at hs
    cases hd with
    | loc _ _ =>
      have hc : ∀ k, k < n → w.cell? ⟨V.ρ l, 0 + k, none⟩ = some (vs.getD k undef) := fun k hk => by
        have : k < vs.size := by omega
        simp [World.cell?, hh, this, Array.getD]
      refine ⟨.agg ((List.range n).map fun k => vs.getD k undef).toArray, ?_, .d _ _ (.agg _ _ (by simp [hn]) ?_)⟩
      · simp only [resRun, Array.getD_eq_getD_getElem?, hv, Option.getD_some, Sem.run_bind, asAddr, Sem.run_pure, Result.andThen, run_loadVarN ht hc]
      · intro k x y hx hy
        simp only [List.getElem?_map, Option.map_eq_some_iff] at hy
        obtain ⟨k', hk', rfl⟩ := hy
        have hk : k < n := by have := (List.getElem?_eq_some_iff.1 hx).1; omega
        rw [List.getElem?_range hk] at hk'
        injection hk' with hk'; subst hk'
        have : k < vs.size := by omega
        have hd2 := hd' k (.d x) (vs.getD k undef) (by simp [hx]) (by simp [this, Array.getD])
        cases hd2 with | d _ _ h => exact h
  | @cellD1 b l n ty ds x h hb ht hx =>
    obtain ⟨v, hv, hd⟩ := ha.slots _ _ h
    obtain ⟨_, vs, tt, hh, hs, hd'⟩ := hw.blks _ _ hb
    simp only [List.length_map] at hs
    cases hd with
    | loc _ _ =>
      have hj : 0 < vs.size := by have := (List.getElem?_eq_some_iff.1 hx).1; omega
      have hc : w.cell? ⟨V.ρ l, 0, none⟩ = some vs[0] := by simp [World.cell?, hh, hj]
      refine ⟨vs[0], ?_, hd' 0 (.d x) _ (by simp [hx]) (Array.getElem?_eq_getElem hj)⟩
      simp only [resRun, Array.getD_eq_getD_getElem?, hv, Option.getD_some, Sem.run_bind, asAddr, Sem.run_pure, Result.andThen, run_loadVar1 ht hc]
  | @arr b l len ty r h hb ht =>
    obtain ⟨v, hv, hd⟩ := ha.slots _ _ h
    obtain ⟨_, vs, tt, hh, hs, _, _, hd'⟩ := hw.blks _ _ hb
    cases hd with
    | loc _ _ =>
      have hc : ∀ k, k < len → w.cell? ⟨V.ρ l, 0 + k, none⟩ = some (vs.getD k undef) := fun k hk => by
        have : k < vs.size := by omega
        simp [World.cell?, hh, this, Array.getD]
      refine ⟨.agg ((List.range len).map fun k => vs.getD k undef).toArray, ?_, .d _ _ (.agg _ _ (by simp) ?_)⟩
      · simp only [resRun, Array.getD_eq_getD_getElem?, hv, Option.getD_some, Sem.run_bind, asAddr, Sem.run_pure, Result.andThen, run_loadVarN ht hc]
      · intro k x y hx hy
        simp only [List.getElem?_map, Option.map_eq_some_iff] at hx hy
        obtain ⟨k1, hk1, rfl⟩ := hx
        obtain ⟨k2, hk2, rfl⟩ := hy
        rw [hk1] at hk2
        injection hk2 with hk2; subst hk2
        have hk : k1 < len := by simpa using List.mem_of_getElem? hk1
        obtain ⟨v', hv', hd''⟩ := hd' k1 0 r hk (by simp)
        simp only [Nat.mul_one, Nat.add_zero] at hv'
        simpa [Array.getD_eq_getD_getElem?, hv'] using hd''

theorem resVars_run {E : Env} {S : St} {V : Vals} {M : Mem} {a : Act} {w : World} (ha : RepA E S V M a) (hw : RepW E S V M w) {rs : List ResultVar} {xs : List AV} (h : ResVars P S rs xs) :
    ∃ vs, Sem.run P (rs.mapM (resRun a.tmps)) w = .ok vs w ∧ DenL V M xs vs := by
  induction h with
  | nil => exact ⟨[], rfl, ⟨rfl, fun j x y hx _ => by simp at hx⟩⟩
  | @cons r x rs xs h t ih =>
    obtain ⟨v, hv, hd⟩ := resVar_run ha hw h
    obtain ⟨vs, hvs, hds⟩ := ih
    refine ⟨v :: vs, ?_, ⟨by simp [hds.len], fun j x' y hx hy => ?_⟩⟩
    · rw [List.mapM_cons, Sem.run_bind, hv]
      simp only [Result.andThen, Sem.run_bind, hvs, Sem.run_pure]
    · cases j with
      | zero => simp at hx hy; subst hx; subst hy; exact hd
      | succ j => simp at hx hy; exact hds.at' j _ _ hx hy

theorem results_run {E : Env} {S : St} {V : Vals} {M : Mem} {a : Act} {w : World} (ha : RepA E S V M a) (hw : RepW E S V M w) {fn : Func} {rs : List ResultVar} {xs : List AV} (hr : fn.results = rs.toArray) (h : ResVars P S rs xs) :
    ∃ v, (results fn a.tmps).run P w = .ok v w ∧ Den V M (resOf xs) v := by
  obtain ⟨vs, hvs, hd⟩ := resVars_run ha hw h
  have hm : Sem.run P (rs.toArray.mapM (resRun a.tmps)) w = .ok vs.toArray w := by
    rw [List.mapM_toArray]
    simp only [← bind_pure_comp, Sem.run_bind]
    rw [hvs]
    rfl
  refine ⟨if h : vs.toArray.size = 1 then vs.toArray[0] else .tuple vs.toArray, ?_, ?_⟩
  · rw [results_eq, hr, Sem.run_bind, hm]
    rfl
  · match xs, vs, hd with
    | [], [], hd => exact .tup [] [] rfl (fun j x y hx _ => by simp at hx)
    | [x], [v], hd => exact hd.at' 0 x v rfl rfl
    | x :: x' :: xs, v :: v' :: vs, hd =>
      rw [dif_neg (by simp)]
      exact .tup _ _ hd.len hd.at'
    | [], _ :: _, hd => exact absurd hd.len (by simp)
    | [_], [], hd => exact absurd hd.len (by simp)
    | [_], _ :: _ :: _, hd => exact absurd hd.len (by simp)
    | _ :: _ :: _, [], hd => exact absurd hd.len (by simp)
    | _ :: _ :: _, [_], hd => exact absurd hd.len (by simp)

def slotsOf : Nat → List AV → St
  | _, [] => []
  | k, x :: r => (sl k, .av x) :: slotsOf (k + 1) r
theorem slotsOf_get : ∀ (l : List AV) (k t : Nat) (x : AV), (slotsOf k l).get (sl t) = some (.av x) → k ≤ t ∧ l[t - k]? = some x
  | [], k, t, x, h => by simp [slotsOf, St.get] at h
  | y :: r, k, t, x, h => by
    simp only [slotsOf, St.get, nbeq] at h
    by_cases hk : sl k = sl t
    · have := sl_inj hk; subst this
      simp at h; subst h
      simp
    · simp only [hk, decide_false, cond_false] at h
      obtain ⟨h1, h2⟩ := slotsOf_get r (k + 1) t x h
      refine ⟨by omega, ?_⟩
      have : t - k = (t - (k + 1)) + 1 := by omega
      rw [this]; simpa using h2
theorem slotsOf_bk : ∀ (l : List AV) (k m : Nat), (slotsOf k l).get (bk m) = none
  | [], _, _ => rfl
  | y :: r, k, m => by simp only [slotsOf, St.get, nbeq, sl_ne_bk k m, decide_false, cond_false]; exact slotsOf_bk r (k + 1) m
theorem St.get_append (S T : St) (n : Nat) : St.get (S ++ T) n = match S.get n with | some c => some c | none => T.get n := by
  induction S with
  | nil => rfl
  | cons x r ih =>
    obtain ⟨m, c⟩ := x
    simp only [List.cons_append, St.get]
    cases Nat.beq m n with
    | true => rfl
    | false => exact ih

/-- **A contract, out of the body's walk.** -/
theorem fnSpec_of {f : FuncId} {fn : Func} {c : Code} {args : List AV} {Bs Bs' : St} {res : AV} {keep : List Nat} {rs : List ResultVar} (hf : P.funcs[f]? = some fn) (hb : fn.body = some c) (hrs : fn.results = rs.toArray)
    (hn : args.length ≤ fn.ntmps) (hBs : ∀ n c, Bs.get n = some c → n % 2 = 1)
    (h : ∀ E : Env, E.keep = keep → E.nt = fn.ntmps → WPA P {} E c (slotsOf 0 args ++ Bs) fun e S' => (e = .normal ∨ e = .ret) ∧ (∃ xs, ResVars P S' rs xs ∧ res = resOf xs) ∧ ∀ l B, Bs'.get (bk l) = some (.blk B) → S'.get (bk l) = some (.blk B)) :
    FnSpec P f args Bs res Bs' keep := by
  intro V M w passed vs hw hd
  refine calls_of_wp hf hb ?_
  let E : Env := (.of w passed M (V) (keep) fn.ntmps)
  have hrep : Rep E (slotsOf 0 args ++ Bs) { tmps := vs.toArray ++ Array.replicate (fn.ntmps - vs.toArray.size) undef, defers := [] } w := by
    refine ⟨V, M, ⟨fun t x ht => ?_, ?_, rfl⟩, ?_⟩
    · rw [St.get_append] at ht
      cases hg : (slotsOf 0 args).get (sl t) with
      | none =>
        rw [hg] at ht
        have := hBs _ _ ht
        unfold sl at this; omega
      | some c =>
        rw [hg] at ht
        simp only [Option.some.injEq] at ht
        subst ht
        obtain ⟨_, h2⟩ := slotsOf_get args 0 t x hg
        simp only [Nat.sub_zero] at h2
        have hlt : t < vs.length := by have := (List.getElem?_eq_some_iff.1 h2).1; rw [← hd.len]; exact this
        exact ⟨vs[t], by simp [Array.getElem?_append, hlt], hd.at' t x _ h2 (List.getElem?_eq_getElem hlt)⟩
    · have := hd.len
      simp only [Array.size_append, List.size_toArray, Array.size_replicate]
      show _ = fn.ntmps
      omega
    · refine (hw.env (E' := E) rfl rfl rfl rfl rfl).blks_only fun l B hl => ?_
      rw [St.get_append, slotsOf_bk] at hl
      exact hl
  have := wpIn_wide.1 (h E rfl rfl _ w hrep.m)
  refine Code.wp_mono ?_ this
  rintro e a w' (⟨S', ⟨he, ⟨xs, hxs, rfl⟩, hbs'⟩, hrm⟩ | ⟨x, hp, _⟩)
  case inr => cases hp
  obtain ⟨V', M', ha', hw'⟩ := hrm.plain rfl
  obtain ⟨v, hv, hdv⟩ := results_run ha' hw' hrs hxs
  have hpost : bodyPost P fn (fun e w' => ∃ v V' M', e = .returned v ∧ Den V' M' (resOf xs) v ∧ RepW (.of w passed M (V) (keep) 0) Bs' V' M' w') .normal a w' :=
    ⟨ha'.defers, v, hv, v, V', M', rfl, hdv, (hw'.env (E' := (.of w passed M (V) (keep) 0)) rfl rfl rfl rfl rfl).blks_only hbs'⟩
  rcases he with rfl | rfl
  · exact hpost
  · exact hpost

/-! At a call. -/
def enterOK (P : Program) (f : FuncId) : Bool := match P.funcs[f]? with
  | some fn => !(fn.name == "runtime.NumGoroutine") && fn.body.isSome
  | none => false
theorem run_callFunc {f : FuncId} (h : enterOK P f = true) (args : Array Value) (w : World) : (callFunc f args).run P w = .ok (.enter f args) w := by
  unfold enterOK at h
  split at h
  · rename_i fn hf
    simp only [Bool.and_eq_true, Bool.not_eq_true'] at h
    have hb : fn.body.isNone = false := by cases hfb : fn.body <;> simp_all
    simp only [callFunc, Sem.run_bind]
    have : (program : Sem Program).run P w = .ok P w := rfl
    rw [this]
    simp only [Result.andThen, hf, h.1, hb, Bool.false_eq_true, if_false]
    rfl
  · cases h

theorem callsIn_fw {f : FuncId} {args : Array Value} {w : World} {R : Ending → World → Prop} (h : Calls P f args w R) : CallsIn (FW ro) 0 P f args w R := (callsIn_wide (n := 0)).2 h

theorem wpIn_of_enter {o : Oper} {a : Act} {w : World} {f : FuncId} {args : Array Value} {K : Act → World → Prop} {Q : Exit → Act → World → Prop} (hd : ∀ d, o.op ≠ .defer d)
    (hr : (execOp a.eval o).run P w = .ok (.enter f args) w) (hk : Calls P f args w fun e w' => ∃ v, e = .returned v ∧ K (a.put o.dst v) w') : o.wpIn (FW ro) 0 P a w K Q := by
  refine ⟨about_fw o a w, ?_⟩
  rw [Oper.semAt_eq _ _ _ hd, hr]
  refine ⟨fw_depth ro 0, callsIn_fw (hk.mono ?_)⟩
  rintro e w' ⟨v, rfl, hv⟩
  exact hv

/-- The arguments at a call: what is passed, then what was captured. -/
structure CallArgs (S : St) (c : Bool) (cl : Call) (g : FuncId) (args : List AV) : Prop where
  out : ∃ (f : Operand) (cs xs : List AV), cl.callee = .value f ∧ (Ev S c f (.fn g cs) ∧ args = xs ++ cs ∨ Ev S c f (.bd g cs) ∧ args = cs ++ xs) ∧ xs.length = cl.args.size ∧ ∀ (j : Nat) (x : Operand) (y : AV), cl.args[j]? = some x → xs[j]? = some y → Ev S c x y

theorem DenL.append {V : Vals} {M : Mem} {l m : List AV} {vs ws : List Value} (h : DenL V M l vs) (k : DenL V M m ws) : DenL V M (l ++ m) (vs ++ ws) where
  len := by simp [h.len, k.len]
  at' := fun j x y hx hy => by
    by_cases hj : j < l.length
    · rw [List.getElem?_append_left hj] at hx
      rw [List.getElem?_append_left (by rw [← h.len]; exact hj)] at hy
      exact h.at' j x y hx hy
    · rw [List.getElem?_append_right (by omega)] at hx
      rw [List.getElem?_append_right (by rw [← h.len]; omega), ← h.len] at hy
      exact k.at' _ x y hx hy

theorem run_call {E : Env} {V : Vals} {M : Mem} {a : Act} {w : World} {o : Oper} {cl : Call} {bl : List Nat} {c : Bool} {g : FuncId} {args : List AV} (ho : o.op = .call cl) (h : Given E S o bl c V M a w) (hc : CallArgs S c cl g args) (hg : enterOK P g = true) :
    ∃ vs, (execOp a.eval o).run P w = .ok (.enter g vs.toArray) w ∧ DenL V M args vs := by
  obtain ⟨f, cs, xs, hf, hef, hl, he⟩ := hc.out
  have hfo : f ∈ o.op.operands := by rw [ho]; simp [Op.operands, Call.operands, hf]
  have hargs : DenL V M xs (cl.args.toList.map a.eval) := ⟨by simpa using hl, fun j x y hx hy => by
    simp only [List.getElem?_map, Option.map_eq_some_iff] at hy
    obtain ⟨z, hz, rfl⟩ := hy
    have hz' : cl.args[j]? = some z := by simpa using hz
    refine h.opd z ?_ _ (he j z x hz' hx)
    rw [ho]
    simp only [Op.operands, Call.operands, Array.mem_append]
    exact .inr (Array.mem_of_getElem? hz')⟩
  rcases hef with ⟨hef, rfl⟩ | ⟨hef, rfl⟩
  · have h1 := h.opd f hfo _ hef
    generalize hv : a.eval f = v at h1
    cases h1 with
    | fn _ _ vs hlen hd =>
      refine ⟨cl.args.toList.map a.eval ++ vs, ?_, hargs.append ⟨hlen, hd⟩⟩
      generalize a.eval = ρ at *
      simp only [execOp, ho, resolve, hf, hv, Deferred.ofValue, Sem.run_bind, Sem.run_pure, Result.andThen, Array.empty_append, invoke, run_callFunc hg]
      simp
  · have h1 := h.opd f hfo _ hef
    generalize hv : a.eval f = v at h1
    cases h1 with
    | bd _ _ vs hlen hd =>
      refine ⟨vs ++ cl.args.toList.map a.eval, ?_, DenL.append ⟨hlen, hd⟩ hargs⟩
      generalize a.eval = ρ at *
      simp only [execOp, ho, resolve, hf, hv, Deferred.ofValue, Sem.run_bind, Sem.run_pure, Result.andThen, Array.append_empty, invoke, run_callFunc hg]
      simp

/-- A call that touches no block of ours; also under a guard. -/
theorem axOp_callP {S0 : St} {o : Oper} {cl : Call} {t : Nat} {gs : List Nat} {c : Bool} {g : FuncId} {args : List AV} {res : AV} (ho : o.op = .call cl) (hdst : o.dst = some t) (hgd : guardIn ops S0 o = some (gs, c)) (hca : CallArgs S0 c cl g args) (hg : enterOK P g = true)
    (hs : c = true → FnSpec P g args [] res [] []) (hm : ∀ l, ¬ Ment res l) :
    AxOp P ro ops o ⟨opNames o ++ gs ++ ([] : List Nat).map bk, S0, [(sl t, some (.av (wrapGd o c res)))], []⟩ := by
  intro E S a w hag _ hok ⟨V, M, ha, hw⟩ Q hpn
  have ht : t < E.nt := hok.2 t (by simp [Ax.names])
  have hwant := wanted_of (E := E) hag hgd (fun n hn => by simp [hn]) ha
  unfold stepIn
  cases c with
  | false =>
    rw [if_neg (by rw [hwant]; simp)]
    refine ⟨about_fw o a w, ?_⟩
    rw [hdst]
    have hw' : wrapGd o false res = .gd false res := by
      unfold wrapGd
      split
      · rename_i h; unfold guardIn at hgd; rw [h] at hgd; simp at hgd
      · rfl
    rw [hw']
    exact ⟨V, M, repA_slot ha t _ undef ht (.gd _ _ _ (fun h => by cases h) (fun _ => rfl)), repW_slot hw t _⟩
  | true =>
    rw [if_pos hwant]
    obtain ⟨vs, hr, hd⟩ := run_call ho (given_of hag (fun n hn => by simp [hn]) (fun l hl => by cases hl) rfl ha hw : Given E S0 o [] true V M a w) hca hg
    refine wpIn_of_enter (fun d h => by rw [ho] at h; cases h) hr ?_
    have hpre : RepW (.of w [] M (V) ([]) 0) [] V M w :=
      { blks := fun l B e => by simp [St.get] at e, inj := fun l l' ⟨⟨B, e⟩, _⟩ => by simp [St.get] at e, sep := fun l ⟨⟨B, e⟩, _⟩ => by simp [St.get] at e, fresh := fun l ⟨⟨B, e⟩, _⟩ => by simp [St.get] at e, bd := fun l ⟨⟨B, e⟩, _⟩ => by simp [St.get] at e,
        mem := hw.mem, mle := Mem.le_refl M, glb := hw.gl, mnew := fun b o h => .inl h, keep := (fun l hl => nomatch hl), frame := ⟨rfl, rfl, rfl, Nat.le_refl _, fun _ _ _ => rfl⟩ }
    refine (hs rfl V M w [] vs hpre hd).mono ?_
    rintro e w' ⟨v, V', M', rfl, hdv, hw'⟩
    refine ⟨v, rfl, ?_⟩
    rw [hdst]
    have hfr := hw'.frame
    have hdv' : Den V M' (wrapGd o true res) v := by
      have h1 : Den V M' res v := hdv.mono (Mem.le_refl _) fun l hl => absurd hl (hm l)
      unfold wrapGd
      split
      · exact h1
      · exact .gd _ _ _ (fun _ => h1) (fun h => by cases h)
    have hkeepB : ∀ l, HasB V S l → w'.heap[V.ρ l]? = w.heap[V.ρ l]? := fun l hl => hfr.block _ (hw.bd l hl) (by simp)
    have ha' : RepA E S V M' a := ⟨fun t x e => let ⟨u, hu, hd⟩ := ha.slots t x e; ⟨u, hu, hd.mono hw'.mle fun _ _ => ⟨rfl, rfl⟩⟩, ha.size, ha.defers⟩
    have hwn : RepW E S V M' w' :=
      { blks := fun l B e => by
          have h0 := (hw.blks l B e)
          have hk : V.κ l ≠ none → w'.heap[V.ρ l]? = w.heap[V.ρ l]? := fun hk => hkeepB l ⟨⟨B, e⟩, hk⟩
          have h1 : BlkAt V M w' l B := h0.kept hk
          cases B with
          | cells cs => obtain ⟨a1, vs, t, a2, a3, a4⟩ := h1; exact ⟨a1, vs, t, a2, a3, fun j x y hx hy => (a4 j x y hx hy).mono hw'.mle fun _ _ => ⟨rfl, rfl⟩⟩
          | data ds => obtain ⟨a1, vs, t, a2, a3, a4⟩ := h1; exact ⟨a1, vs, t, a2, a3, fun j x y hx hy => (a4 j x y hx hy).mono hw'.mle fun _ _ => ⟨rfl, rfl⟩⟩
          | cols n len cs => obtain ⟨a1, vs, t, a2, a3, a4, a5, a6⟩ := h1; exact ⟨a1, vs, t, a2, a3, a4, a5, fun i j c hi hc => let ⟨v, hv, hd⟩ := a6 i j c hi hc; ⟨v, hv, hd.mono hw'.mle⟩⟩
          | app n len cs =>
            obtain ⟨a1, a2, a3⟩ := h1
            refine ⟨a1, a2, ?_⟩
            split
            · rename_i hkn; rw [hkn] at a3; exact a3
            · rename_i cap hkn
              rw [hkn] at a3
              obtain ⟨b1, vs, t, b2, b3, b4, b5, b6⟩ := a3
              exact ⟨b1, vs, t, b2, b3, b4, b5, fun i j c hi hc => let ⟨v, hv, hd⟩ := b6 i j c hi hc; ⟨v, hv, hd.mono hw'.mle⟩⟩
          | lp h' ts => exact lpAt.turn h1 hw'.mle ⟨rfl, rfl⟩ (fun _ _ => ⟨rfl, rfl⟩) (fun _ => rfl)
          | appv cs => exact appvAt.turn h1 hw'.mle ⟨rfl, rfl⟩ (fun _ _ => ⟨rfl, rfl⟩) (fun _ => rfl)
          | keys ks => exact h1
        inj := hw.inj
        sep := fun l hl o => by
          cases hc : M' (V.ρ l) o with
          | none => rfl
          | some u =>
            rcases hw'.mnew (V.ρ l) o (by rw [hc]; simp) with h | h | h
            · exact absurd (hw.sep l hl o) h
            · have := hw.bd l hl
              have h : w.heap.size ≤ V.ρ l := h
              omega
            · cases h
        fresh := hw.fresh
        bd := fun l hl => Nat.lt_of_lt_of_le (hw.bd l hl) hfr.size
        mem := hw'.mem
        mle := Mem.le_trans hw.mle hw'.mle, glb := hw.glb
        mnew := fun b o h => by
          rcases hw'.mnew b o h with h | h | h
          · exact hw.mnew b o h
          · have h : w.heap.size ≤ b := h
            exact .inr (.inl (Nat.le_trans hw.frame.size h))
          · cases h
        keep := hw.keep
        frame := ⟨hfr.os.trans hw.frame.os, hfr.tape.trans hw.frame.tape, hfr.output.trans hw.frame.output, Nat.le_trans hw.frame.size hfr.size, fun b hb hp => (hfr.block b (Nat.lt_of_lt_of_le hb hw.frame.size) (by simp)).trans (hw.frame.block b hb hp)⟩ }
    exact ⟨V, M', repA_slot ha' t _ v ht hdv', repW_slot hwn t _⟩

theorem Trace.callP {S0 S' : St} {o : Oper} {cl : Call} {r : List Oper} {L : List Ax} {t : Nat} {gs : List Nat} {c : Bool} {g : FuncId} {args : List AV} {res : D} (hs : c = true → FnSpec P g args [] (.d res) [] []) (ho : o.op = .call cl) (hdst : o.dst = some t) (hgd : guardIn ops S0 o = some (gs, c))
    (hca : CallArgs S0 c cl g args) (hg : enterOK P g = true)
    (h : Trace P ro ops r ((sl t, .av (wrapGd o c (.d res))) :: S0) L S') :
    Trace P ro ops (o :: r) S0 (⟨opNames o ++ gs ++ ([] : List Nat).map bk, S0, [(sl t, some (.av (wrapGd o c (.d res))))], []⟩ :: L) S' :=
  .cons (axOp_callP ho hdst hgd hca hg hs (fun l h => by cases h)) (fun _ _ => rfl) (fun l hl => by cases hl) (cons_upd S0 _ _) h
/-- A tuple of immutable data. -/
theorem ment_tup {l : List D} {m : Nat} : ¬ Ment (.tup (l.map .d)) m := by
  intro h
  cases h with
  | tup _ x _ hx h =>
    obtain ⟨y, _, rfl⟩ := List.mem_map.1 hx
    cases h
theorem Trace.callT {S0 S' : St} {o : Oper} {cl : Call} {r : List Oper} {L : List Ax} {t : Nat} {gs : List Nat} {c : Bool} {g : FuncId} {args : List AV} {res : AV} (hs : c = true → FnSpec P g args [] res [] []) (ho : o.op = .call cl) (hdst : o.dst = some t) (hgd : guardIn ops S0 o = some (gs, c))
    (hca : CallArgs S0 c cl g args) (hg : enterOK P g = true) (hm : ∃ l : List D, res = .tup (l.map .d))
    (h : Trace P ro ops r ((sl t, .av (wrapGd o c res)) :: S0) L S') :
    Trace P ro ops (o :: r) S0 (⟨opNames o ++ gs ++ ([] : List Nat).map bk, S0, [(sl t, some (.av (wrapGd o c res)))], []⟩ :: L) S' :=
  .cons (axOp_callP ho hdst hgd hca hg hs (fun l h => by obtain ⟨l', rfl⟩ := hm; exact ment_tup h)) (fun _ _ => rfl) (fun l hl => by cases hl) (cons_upd S0 _ _) h

end Go.Proofs.YtmdfamnnnoieaaaDoor

/- Stores into blocks of the function's own. No program in sight. -/
namespace Go.Proofs.YtmdfamnnnoieaaaDoor
open Go
set_option linter.unusedVariables false
set_option linter.unusedSimpArgs false
variable {P : Program} {S : St} {ro : Ro} {ops : Array Oper}

theorem Pure.to {bl : List Nat} {o : Oper} {c : Bool} {x y : AV} (h : Pure P S bl o c x) (e : x = y) : Pure P S bl o c y := e ▸ h
theorem Pure.loadAllD {c : Bool} {l n : Nat} {ds : List D} {d : Option Tmp} {t ty : TypeId} {x : Operand} {pos : String} {af : Array Edge} {gd : Option (Nat × Bool)} (ht : tyOK P t true n = true) (e1 : Ev S c x (.loc l 0)) (hb : S.get (bk l) = some (.blk (.data ds))) (hn : ds.length = n) :
    Pure P S [l] ⟨d, .load t x, ty, pos, af, gd⟩ c (.d (.agg ds)) := by
  refine (Pure.loadLocD ht e1 hb (fun _ => by omega)).to ?_
  rw [List.drop_zero, List.take_of_length_le (by omega)]
theorem spliceL_all {α : Type} {l us : List α} (h : l.length = us.length) : spliceL l 0 us = us := by
  simp [spliceL, List.drop_eq_nil_of_le (Nat.le_of_eq h)]
theorem iv_eq {k : IntKind} {m n : Int} (h : m = n) : some (Cont.av (iv k m)) = some (Cont.av (iv k n)) := by rw [h]
theorem blk_eq {m n : Blk} (h : m = n) : some (Cont.blk m) = some (Cont.blk n) := by rw [h]

/-! Operations without a guard, written out. -/
theorem Trace.pu {S0 S' : St} {op : Op} {ty : TypeId} {pos : String} {af : Array Edge} {r : List Oper} {L : List Ax} {t : Nat} {x : AV} (bl : List Nat) (hp : Pure P S0 bl ⟨some t, op, ty, pos, af, none⟩ true x)
    (h : Trace P ro ops r ((sl t, (.av x)) :: S0) L S') :
    Trace P ro ops (⟨some t, op, ty, pos, af, none⟩ :: r) S0 (⟨opNames ⟨some t, op, ty, pos, af, none⟩ ++ [] ++ bl.map bk, S0, [(sl t, some (.av x))], []⟩ :: L) S' :=
  Trace.pure bl hp rfl rfl h
theorem Trace.pg {S0 S' : St} {op : Op} {ty : TypeId} {pos : String} {af : Array Edge} {r : List Oper} {L : List Ax} {t : Nat} {x : AV} (bl : List Nat) {gd : Nat × Bool} {g : List Nat} {c : Bool} (hg : guardIn ops S0 ⟨some t, op, ty, pos, af, some gd⟩ = some (g, c))
    (hp : Pure P S0 bl ⟨some t, op, ty, pos, af, some gd⟩ c x) (h : Trace P ro ops r ((sl t, (.av (.gd c x))) :: S0) L S') :
    Trace P ro ops (⟨some t, op, ty, pos, af, some gd⟩ :: r) S0 (⟨opNames ⟨some t, op, ty, pos, af, some gd⟩ ++ g ++ bl.map bk, S0, [(sl t, some (.av (.gd c x)))], []⟩ :: L) S' :=
  Trace.pure bl hp rfl hg h
theorem Trace.cu {S0 S' : St} {cl : Call} {ty : TypeId} {pos : String} {af : Array Edge} {r : List Oper} {L : List Ax} {t : Nat} {g : FuncId} {args : List AV} {res : D} (hca : CallArgs S0 true cl g args) (hs : FnSpec P g args [] (.d res) [] []) (hg : enterOK P g = true)
    (h : Trace P ro ops r ((sl t, (.av (.d res))) :: S0) L S') :
    Trace P ro ops (⟨some t, .call cl, ty, pos, af, none⟩ :: r) S0 (⟨opNames ⟨some t, .call cl, ty, pos, af, none⟩ ++ [] ++ ([] : List Nat).map bk, S0, [(sl t, some (.av (.d res)))], []⟩ :: L) S' :=
  Trace.callP (fun _ => hs) rfl rfl rfl hca hg h
theorem Trace.ct {S0 S' : St} {cl : Call} {ty : TypeId} {pos : String} {af : Array Edge} {r : List Oper} {L : List Ax} {t : Nat} {g : FuncId} {args : List AV} {ds : List D} (hca : CallArgs S0 true cl g args) (hs : FnSpec P g args [] (.tup (ds.map .d)) [] []) (hg : enterOK P g = true)
    (h : Trace P ro ops r ((sl t, (.av (.tup (ds.map .d)))) :: S0) L S') :
    Trace P ro ops (⟨some t, .call cl, ty, pos, af, none⟩ :: r) S0 (⟨opNames ⟨some t, .call cl, ty, pos, af, none⟩ ++ [] ++ ([] : List Nat).map bk, S0, [(sl t, some (.av (.tup (ds.map .d))))], []⟩ :: L) S' :=
  Trace.callT (fun _ => hs) rfl rfl rfl hca hg ⟨ds, rfl⟩ h
theorem Trace.cg {S0 S' : St} {cl : Call} {ty : TypeId} {pos : String} {af : Array Edge} {r : List Oper} {L : List Ax} {t : Nat} {gd : Nat × Bool} {gs : List Nat} {c : Bool} {g : FuncId} {args : List AV} {res : D} (hgd : guardIn ops S0 ⟨some t, .call cl, ty, pos, af, some gd⟩ = some (gs, c))
    (hca : CallArgs S0 c cl g args) (hs : c = true → FnSpec P g args [] (.d res) [] []) (hg : enterOK P g = true)
    (h : Trace P ro ops r ((sl t, (.av (.gd c (.d res)))) :: S0) L S') :
    Trace P ro ops (⟨some t, .call cl, ty, pos, af, some gd⟩ :: r) S0 (⟨opNames ⟨some t, .call cl, ty, pos, af, some gd⟩ ++ gs ++ ([] : List Nat).map bk, S0, [(sl t, some (.av (.gd c (.d res))))], []⟩ :: L) S' :=
  Trace.callP hs rfl rfl hgd hca hg h

/-- A call's arguments, one by one. -/
inductive EvAll (S : St) (c : Bool) : List Operand → List AV → Prop
  | nil : EvAll S c [] []
  | cons {x : Operand} {y : AV} {xs : List Operand} {ys : List AV} (h : Ev S c x y) (t : EvAll S c xs ys) : EvAll S c (x :: xs) (y :: ys)
theorem EvAll.at' {c : Bool} {xs : List Operand} {ys : List AV} (h : EvAll S c xs ys) : ys.length = xs.length ∧ ∀ (j : Nat) (x : Operand) (y : AV), xs[j]? = some x → ys[j]? = some y → Ev S c x y := by
  induction h with
  | nil => exact ⟨rfl, fun j x y hx _ => by simp at hx⟩
  | cons h t ih =>
    refine ⟨by simp [ih.1], fun j x y hx hy => ?_⟩
    cases j with
    | zero => simp at hx hy; subst hx; subst hy; exact h
    | succ j => simp at hx hy; exact ih.2 j x y hx hy
theorem callArgs {c : Bool} {f : Operand} {l : List Operand} {ts : Array TypeId} {g : FuncId} {cs xs : List AV} (hf : Ev S c f (.fn g cs)) (h : EvAll S c l xs) : CallArgs S c ⟨.value f, l.toArray, ts⟩ g (xs ++ cs) :=
  ⟨f, cs, xs, rfl, .inl ⟨hf, rfl⟩, by simpa using h.at'.1, fun j x y hx hy => h.at'.2 j x y (by simpa using hx) hy⟩
/-- A call of a method's value. -/
theorem callArgsB {c : Bool} {f : Operand} {l : List Operand} {ts : Array TypeId} {g : FuncId} {cs xs : List AV} (hf : Ev S c f (.bd g cs)) (h : EvAll S c l xs) : CallArgs S c ⟨.value f, l.toArray, ts⟩ g (cs ++ xs) :=
  ⟨f, cs, xs, rfl, .inr ⟨hf, rfl⟩, by simpa using h.at'.1, fun j x y hx hy => h.at'.2 j x y (by simpa using hx) hy⟩
theorem callArgs0 {c : Bool} {l : List Operand} {ts : Array TypeId} {g : FuncId} {xs : List AV} (h : EvAll S c l xs) : CallArgs S c ⟨.value (.func g), l.toArray, ts⟩ g xs := by
  have := callArgs (S := S) (c := c) (f := .func g) (ts := ts) (.plain rfl : Ev S c (.func g) (.fn g [])) h
  simpa using this

/-! One-cell values. -/
def AV.oneB : AV → Bool
  | .d (.v u) => single u
  | .d (.rows _ _ _) => true
  | .d (.agg _) => false
  | .agg _ => false
  | .tup _ => false
  | .gd _ _ => false
  | _ => true
theorem one_of {V : Vals} {M : Mem} {x : AV} {v : Value} (h : Den V M x v) (ho : x.oneB = true) : v.oneCell' = true := by
  cases h with
  | d x v h =>
    cases h with
    | v => cases v <;> simp_all [AV.oneB, single, Value.oneCell']
    | agg => simp [AV.oneB] at ho
    | emp => rfl
    | rows => rfl
  | agg => simp [AV.oneB] at ho
  | tup => simp [AV.oneB] at ho
  | gd => simp [AV.oneB] at ho
  | _ => rfl
theorem DenL.one {V : Vals} {M : Mem} {l : List AV} {vs : List Value} (h : DenL V M l vs) (ho : ∀ x ∈ l, x.oneB = true) : ∀ v ∈ vs, v.oneCell' = true := by
  intro v hv
  obtain ⟨j, hj, rfl⟩ := List.mem_iff_getElem.1 hv
  have hj' : j < l.length := by rw [h.len]; exact hj
  exact one_of (h.at' j l[j] _ (List.getElem?_eq_getElem hj') (List.getElem?_eq_getElem hj)) (ho _ (List.getElem_mem hj'))

theorem WStep.setRow (w : World) (b : Nat) (cs : Array Value) (h : b < w.heap.size) : WStep w (w.setRow b cs) b := WStep.modify w b _ h

theorem run_storeVar {t : TypeId} {agg : Bool} {n : Nat} (ht : tyOK P t agg n = true) {w : World} {b o : Nat} {tt : TypeId} {cur : Array Value} {v : Value} (hv : v.cells.size = n) (hb : w.heap[b]? = some (.cells cur tt (0, 0))) (ho : o + n ≤ cur.size) (h1 : ∀ u ∈ v.cells.toList, u.oneCell' = true) :
    (storeVar t ⟨b, o, none⟩ v).run P w = .ok () (w.setRow b (spliceL cur.toList o v.cells.toList).toArray) := by
  have hst := run_storeCells_at (P := P) b o tt v.cells.toList 0 cur w hb (by simpa [hv] using ho) h1
  simp only [storeVar, Sem.run_bind, tyOK_sizeOf ht, Result.andThen, hv, ne_eq, not_true, if_false, hst]
  simp [spliceL]

/-- A store into a block of ours. -/
theorem axOp_store {S0 : St} {o : Oper} {t : TypeId} {x y : Operand} {l : Nat} {B B' : Blk} (ho : o.op = .store t x y) (hdst : o.dst = none) (hgd : o.guard = none) (hb : S0.get (bk l) = some (.blk B))
    (h : ∀ E V M a w, Given E S0 o [l] true V M a w → V.κ l ≠ none ∧ ∃ off tt cur us, a.eval x = .pointer (some ⟨V.ρ l, off, none⟩) ∧ w.heap[V.ρ l]? = some (.cells cur tt (0, 0)) ∧ (storeVar t ⟨V.ρ l, off, none⟩ (a.eval y)).run P w = .ok () (w.setRow (V.ρ l) us) ∧
      ∀ w', w'.heap[V.ρ l]? = some (.cells us tt (0, 0)) → BlkAt V M w' l B') :
    AxOp P ro ops o ⟨opNames o ++ [bk l], S0, [(bk l, some (.blk B'))], []⟩ := by
  intro E S a w hs _ hok ⟨V, M, ha, hw⟩ Q hpn
  have hg : Given E S0 o [l] true V M a w := given_of (rn := opNames o ++ [bk l]) hs (fun n hn => by simp [hn]) (fun m hm => by simp at hm; subst hm; simp) rfl ha hw
  obtain ⟨hk, off, tt, cur, us, he, hc, hr, hB⟩ := h E V M a w hg
  unfold stepIn
  rw [if_pos (by simp [Region.wanted, hgd])]
  have hrun : (execOp a.eval o).run P w = .ok .skip (w.setRow (V.ρ l) us) := by
    generalize a.eval = ρ at *
    simp only [execOp, ho, Instr.storeAt, he, Instr.sureAddr, Sem.run_bind, Sem.run_pure, Result.andThen, hr]
  refine wpIn_of_skip (fun d h => by rw [ho] at h; cases h) hrun ?_
  rw [hdst]
  have hSl : S.get (bk l) = some (.blk B) := by rw [hs (bk l) (by simp)]; exact hb
  have hlt : V.ρ l < w.heap.size := hw.bd l ⟨⟨B, hSl⟩, hk⟩
  exact ⟨V, M, repA_blk ha l B', repW_write hw hSl hk (WStep.setRow w _ us hlt) (hB _ (setRow_heap w _ _ _ _ _ hc))⟩

theorem Trace.store {S0 S' : St} {r : List Oper} {L : List Ax} {o : Oper} {l : Nat} {B' : Blk} (ha : AxOp P ro ops o ⟨opNames o ++ [bk l], S0, [(bk l, some (.blk B'))], []⟩) (h : Trace P ro ops r ((bk l, (.blk B')) :: S0) L S') :
    Trace P ro ops (o :: r) S0 (⟨opNames o ++ [bk l], S0, [(bk l, some (.blk B'))], []⟩ :: L) S' :=
  .cons ha (fun _ _ => rfl) (fun l hl => by cases hl) (cons_upd S0 _ _) h

section
variable {x y : Operand} {ty t : TypeId} {pos : String} {af : Array Edge}

/-- Into named cells. -/
theorem Trace.storeLoc {S0 S' : St} {r : List Oper} {L : List Ax} {l j n : Nat} {cs us cs' : List AV} {u : AV} {agg : Bool} (ht : tyOK P t agg n = true) (e1 : Ev S0 true x (.loc l j)) (e2 : Ev S0 true y u) (hb : S0.get (bk l) = some (.blk (.cells cs)))
    (hu : u.cellsL = some us) (hn : us.length = n) (h1 : ∀ x ∈ us, x.oneB = true) (hj : j + n ≤ cs.length) (hcs : spliceL cs j us = cs') (h : Trace P ro ops r ((bk l, (.blk (.cells cs'))) :: S0) L S') :
    Trace P ro ops (⟨none, .store t x y, ty, pos, af, none⟩ :: r) S0 (⟨opNames ⟨none, .store t x y, ty, pos, af, none⟩ ++ [bk l], S0, [(bk l, some (.blk (.cells cs')))], []⟩ :: L) S' := by
  refine Trace.store (axOp_store rfl rfl rfl hb fun E V M a w hg => ?_) h
  obtain ⟨hk, vs, tt, hh, hs, hd⟩ := hg.blk l (by simp) _ hb
  have hx := hg.opd x (by simp [Op.operands]) _ e1
  have hy := cells_of (hg.opd y (by simp [Op.operands]) _ e2) hu
  have hcur : DenL V M cs vs.toList := ⟨by simpa using hs.symm, fun j x y h1 h2 => hd j x y h1 (by simpa using h2)⟩
  generalize he : a.eval x = v at hx
  cases hx with
  | loc _ _ =>
    have hsz : (a.eval y).cells.size = n := by have := hy.len; simp at this; omega
    refine ⟨hk, j, tt, vs, (spliceL vs.toList j (a.eval y).cells.toList).toArray, rfl, hh, run_storeVar (o := j) ht hsz hh (by omega) (hy.one h1), fun w' hw' => ?_⟩
    have hsp := hcur.splice (o := j) hy (by omega)
    rw [hcs] at hsp
    exact ⟨hk, _, tt, hw', by simpa using hsp.len.symm, fun j x y h1 h2 => hsp.at' j x y h1 (by simpa using h2)⟩

/-- Plain data into plain data. -/
theorem Trace.storeD {S0 S' : St} {r : List Oper} {L : List Ax} {l j n : Nat} {cs us cs' : List D} {u : AV} {agg : Bool} (ht : tyOK P t agg n = true) (e1 : Ev S0 true x (.loc l j)) (e2 : Ev S0 true y u) (hb : S0.get (bk l) = some (.blk (.data cs)))
    (hu : dsOfAV u = some us) (hn : us.length = n) (h1 : ∀ x ∈ us, (AV.d x).oneB = true) (hj : j + n ≤ cs.length) (hcs : spliceL cs j us = cs') (h : Trace P ro ops r ((bk l, .blk (.data cs')) :: S0) L S') :
    Trace P ro ops (⟨none, .store t x y, ty, pos, af, none⟩ :: r) S0 (⟨opNames ⟨none, .store t x y, ty, pos, af, none⟩ ++ [bk l], S0, [(bk l, some (.blk (.data cs')))], []⟩ :: L) S' := by
  refine Trace.store (axOp_store rfl rfl rfl hb fun E V M a w hg => ?_) h
  obtain ⟨hk, vs, tt, hh, hs, hd⟩ := hg.blk l (by simp) _ hb
  have hx := hg.opd x (by simp [Op.operands]) _ e1
  have hy := cells_of (hg.opd y (by simp [Op.operands]) _ e2) (dsOfAV_cells hu)
  have hcur : DenL V M (cs.map .d) vs.toList := ⟨by simpa using hs.symm, fun j x y h1 h2 => hd j x y h1 (by simpa using h2)⟩
  simp only [List.length_map] at hs
  generalize he : a.eval x = v at hx
  cases hx with
  | loc _ _ =>
    have hsz : (a.eval y).cells.size = n := by have := hy.len; simp at this; omega
    have hone : ∀ u ∈ (a.eval y).cells.toList, u.oneCell' = true := hy.one fun x hx => by
      obtain ⟨z, hz, rfl⟩ := List.mem_map.1 hx; exact h1 z hz
    refine ⟨hk, j, tt, vs, (spliceL vs.toList j (a.eval y).cells.toList).toArray, rfl, hh, run_storeVar (o := j) ht hsz hh (by omega) hone, fun w' hw' => ?_⟩
    have hsp := hcur.splice (o := j) hy (by simp; omega)
    have e : spliceL (cs.map AV.d) j (us.map AV.d) = cs'.map .d := by rw [← hcs]; simp [spliceL]
    rw [e] at hsp
    exact ⟨hk, _, tt, hw', by simpa using hsp.len.symm, fun j x y h1 h2 => hsp.at' j x y h1 (by simpa using h2)⟩
/-- Whatever into plain data. -/
theorem Trace.storeDA {S0 S' : St} {r : List Oper} {L : List Ax} {l j n : Nat} {cs : List D} {us cs' : List AV} {u : AV} {agg : Bool} (ht : tyOK P t agg n = true) (e1 : Ev S0 true x (.loc l j)) (e2 : Ev S0 true y u) (hb : S0.get (bk l) = some (.blk (.data cs)))
    (hu : u.cellsL = some us) (hn : us.length = n) (h1 : ∀ x ∈ us, x.oneB = true) (hj : j + n ≤ cs.length) (hcs : spliceL (cs.map .d) j us = cs') (h : Trace P ro ops r ((bk l, .blk (.cells cs')) :: S0) L S') :
    Trace P ro ops (⟨none, .store t x y, ty, pos, af, none⟩ :: r) S0 (⟨opNames ⟨none, .store t x y, ty, pos, af, none⟩ ++ [bk l], S0, [(bk l, some (.blk (.cells cs')))], []⟩ :: L) S' := by
  refine Trace.store (axOp_store rfl rfl rfl hb fun E V M a w hg => ?_) h
  obtain ⟨hk, vs, tt, hh, hs, hd⟩ := hg.blk l (by simp) _ hb
  have hx := hg.opd x (by simp [Op.operands]) _ e1
  have hy := cells_of (hg.opd y (by simp [Op.operands]) _ e2) hu
  have hcur : DenL V M (cs.map .d) vs.toList := ⟨by simpa using hs.symm, fun j x y h1 h2 => hd j x y h1 (by simpa using h2)⟩
  simp only [List.length_map] at hs
  generalize he : a.eval x = v at hx
  cases hx with
  | loc _ _ =>
    have hsz : (a.eval y).cells.size = n := by have := hy.len; simp at this; omega
    refine ⟨hk, j, tt, vs, (spliceL vs.toList j (a.eval y).cells.toList).toArray, rfl, hh, run_storeVar (o := j) ht hsz hh (by omega) (hy.one h1), fun w' hw' => ?_⟩
    have hsp := hcur.splice (o := j) hy (by simp; omega)
    rw [hcs] at hsp
    exact ⟨hk, _, tt, hw', by simpa using hsp.len.symm, fun j x y h1 h2 => hsp.at' j x y h1 (by simpa using h2)⟩

/-! Into rows. -/
def Col.set? : Col → Nat → D → Option Col
  | .ints k xs, i, .v (.int k' m) => if k = k' then some (.ints k (xs.set i m)) else none
  | .bools xs, i, .v (.bool b) => some (.bools (xs.set i b))
  | .ds xs, i, x => some (.ds (xs.set i x))
  | _, _, _ => none
theorem col_set {c c' : Col} {i : Nat} {x : D} (h : c.set? i x = some c') : c'.len = c.len ∧ ∀ j, j < c.len → c'.at j = if j = i then x else c.at j := by
  have key : ∀ {α : Type} (xs : List α) (m d : α) (j : Nat), j < xs.length → (xs.set i m).getD j d = if j = i then m else xs.getD j d := by
    intro α xs m d j hj
    by_cases h : j = i
    · subst h; simp [List.getD_eq_getElem?_getD, hj]
    · simp [List.getD_eq_getElem?_getD, List.getElem?_set_ne (Ne.symm h), h]
  cases c with
  | ints k xs =>
    cases x with
    | v u =>
      cases u with
      | int k' m =>
        simp only [Col.set?] at h
        split at h
        · rename_i hk; injection h with h; subst h; subst hk
          refine ⟨by simp [Col.len], fun j hj => ?_⟩
          simp only [Col.at, key xs m 0 j hj]
          split <;> rfl
        · cases h
      | _ => simp [Col.set?] at h
    | _ => simp [Col.set?] at h
  | bools xs =>
    cases x with
    | v u =>
      cases u with
      | bool b =>
        simp only [Col.set?, Option.some.injEq] at h; subst h
        refine ⟨by simp [Col.len], fun j hj => ?_⟩
        simp only [Col.at, key xs b false j hj]
        split <;> rfl
      | _ => simp [Col.set?] at h
    | _ => simp [Col.set?] at h
  | ds xs =>
    simp only [Col.set?, Option.some.injEq] at h; subst h
    exact ⟨by simp [Col.len], fun j hj => by simp only [Col.at, key xs x _ j hj]⟩
def setCols : List Col → Nat → Nat → List D → Option (List Col)
  | cs, _, _, [] => some cs
  | [], _, _, _ :: _ => none
  | c :: cs, 0, i, x :: ds => match c.set? i x, setCols cs 0 i ds with
    | some c', some r => some (c' :: r)
    | _, _ => none
  | c :: cs, j + 1, i, ds => match setCols cs j i ds with
    | some r => some (c :: r)
    | none => none
theorem setCols_spec {len i : Nat} : ∀ (cs : List Col) (j : Nat) (ds : List D) (cs' : List Col), setCols cs j i ds = some cs' → (∀ c ∈ cs, c.len = len) →
    cs'.length = cs.length ∧ (ds ≠ [] → j + ds.length ≤ cs.length) ∧ (∀ c ∈ cs', c.len = len) ∧ ∀ i' k c', i' < len → cs'[k]? = some c' → ∃ c, cs[k]? = some c ∧ c'.at i' = if i' = i ∧ j ≤ k ∧ k < j + ds.length then ds.getD (k - j) (.v .nilFunc) else c.at i' := by
  intro cs
  induction cs with
  | nil =>
    intro j ds cs' h hl
    cases ds with
    | nil => simp only [setCols, Option.some.injEq] at h; subst h; exact ⟨rfl, fun h => absurd rfl h, hl, fun i' k c' _ h => by simp at h⟩
    | cons => simp [setCols] at h
  | cons c cs ih =>
    intro j ds cs' h hl
    cases ds with
    | nil =>
      simp only [setCols, Option.some.injEq] at h; subst h
      exact ⟨rfl, fun h => absurd rfl h, hl, fun i' k c' _ h => ⟨c', h, by rw [if_neg (by simp only [List.length_nil]; omega)]⟩⟩
    | cons x ds =>
      cases j with
      | zero =>
        simp only [setCols] at h
        split at h
        · rename_i c1 r h1 h2
          injection h with h; subst h
          obtain ⟨a1, a2⟩ := col_set h1
          obtain ⟨b1, b2, b3, b4⟩ := ih 0 ds r h2 (fun c hc => hl c (by simp [hc]))
          refine ⟨by simp [b1], fun _ => ?_, ?_, ?_⟩
          · by_cases hds : ds = []
            · subst hds; simp
            · have := b2 hds; simp at this ⊢; exact this
          · intro c hc
            rcases List.mem_cons.1 hc with rfl | hc
            · rw [a1]; exact hl _ (by simp)
            · exact b3 c hc
          · intro i' k c' hi hk
            cases k with
            | zero =>
              simp at hk; subst hk
              refine ⟨c, rfl, ?_⟩
              rw [a2 i' (by rw [hl c (by simp)]; exact hi)]
              by_cases h : i' = i <;> simp [h]
            | succ k =>
              simp at hk
              obtain ⟨c0, hc0, he⟩ := b4 i' k c' hi hk
              refine ⟨c0, by simpa using hc0, ?_⟩
              rw [he]
              by_cases h : i' = i ∧ k < ds.length
              · rw [if_pos (by omega), if_pos (by simp; omega)]
                simp
              · rw [if_neg (by omega), if_neg (by simp; omega)]
        · cases h
      | succ j =>
        simp only [setCols] at h
        split at h
        · rename_i r h2
          injection h with h; subst h
          obtain ⟨b1, b2, b3, b4⟩ := ih j (x :: ds) r h2 (fun c hc => hl c (by simp [hc]))
          refine ⟨by simp [b1], fun hne => by have := b2 hne; simp at this ⊢; omega, ?_, ?_⟩
          · intro c' hc
            rcases List.mem_cons.1 hc with rfl | hc
            · exact hl _ (by simp)
            · exact b3 c' hc
          · intro i' k c' hi hk
            cases k with
            | zero =>
              simp at hk; subst hk
              exact ⟨c, rfl, by rw [if_neg (by omega)]⟩
            | succ k =>
              simp at hk
              obtain ⟨c0, hc0, he⟩ := b4 i' k c' hi hk
              refine ⟨c0, by simpa using hc0, ?_⟩
              rw [he]
              by_cases h : i' = i ∧ j ≤ k ∧ k < j + (x :: ds).length
              · rw [if_pos h, if_pos (by omega)]; congr 1; omega
              · rw [if_neg h, if_neg (by omega)]
        · cases h

theorem cellsL_ds {u : AV} {ds : List D} (h : dsOfAV u = some ds) : u.cellsL = some (ds.map .d) := dsOfAV_cells h

theorem rows_splice {M : Mem} {n len i j : Nat} {cs cs' : List Col} {vs : Array Value} {ds : List D} {us : List Value} (hr : rowsAt M n len cs vs) (hlen : len * n ≤ vs.size) (hset : setCols cs j i ds = some cs') (hi : i < len) (hne : ds ≠ [])
    (hus : ds.length = us.length) (hd : ∀ (k : Nat) (x : D) (y : Value), ds[k]? = some x → us[k]? = some y → DenD M x y) : i * n + j + us.length ≤ vs.size ∧ rowsAt M n len cs' (spliceL vs.toList (i * n + j) us).toArray := by
  obtain ⟨h1, h2, h3⟩ := hr
  obtain ⟨a1, a2, a3, a4⟩ := setCols_spec cs j ds cs' hset h2
  have a2 := a2 hne
  have hle : (i + 1) * n ≤ len * n := Nat.mul_le_mul_right n hi
  rw [Nat.add_mul, Nat.one_mul] at hle
  have hsz : i * n + j + us.length ≤ vs.size := by omega
  refine ⟨hsz, by rw [a1, h1], a3, fun i' k c' hi' hk => ?_⟩
  obtain ⟨c, hc, he⟩ := a4 i' k c' hi' hk
  have hkn : k < n := by rw [← h1]; exact (List.getElem?_eq_some_iff.1 hc).1
  obtain ⟨v, hv, hdv⟩ := h3 i' k c hi' hc
  have hsp := spliceL_get (l := vs.toList) (o := i * n + j) (us := us) (by simpa using hsz) (i' * n + k)
  have hiff : (i * n + j ≤ i' * n + k ∧ i' * n + k < i * n + j + us.length) ↔ (i' = i ∧ j ≤ k ∧ k < j + ds.length) := by
    constructor
    · rintro ⟨b1, b2⟩
      have : i' = i := by
        rcases Nat.lt_trichotomy i' i with h | h | h
        · exfalso
          have : (i' + 1) * n ≤ i * n := Nat.mul_le_mul_right n h
          rw [Nat.add_mul, Nat.one_mul] at this
          omega
        · exact h
        · exfalso
          have : (i + 1) * n ≤ i' * n := Nat.mul_le_mul_right n h
          rw [Nat.add_mul, Nat.one_mul] at this
          omega
      subst this
      omega
    · rintro ⟨rfl, b1, b2⟩
      omega
  rw [he]
  by_cases hin : i' = i ∧ j ≤ k ∧ k < j + ds.length
  · rw [if_pos (hiff.2 hin)] at hsp
    rw [if_pos hin]
    obtain ⟨rfl, hjk, hkj⟩ := hin
    have hlt : k - j < us.length := by omega
    have hlt' : k - j < ds.length := by omega
    have hidx : i' * n + k - (i' * n + j) = k - j := by omega
    rw [hidx] at hsp
    refine ⟨us[k - j], by simpa [List.getElem?_eq_getElem hlt] using hsp, hd (k - j) _ _ ?_ (List.getElem?_eq_getElem hlt)⟩
    rw [List.getD_eq_getElem?_getD, List.getElem?_eq_getElem hlt']; rfl
  · rw [if_neg (fun h => hin (hiff.1 h))] at hsp
    rw [if_neg hin]
    exact ⟨v, by simpa [hv] using hsp, hdv⟩

/-- The same block, its columns turned. -/
def Blk.withCols (cs : List Col) : Blk → Blk
  | .cols n len _ => .cols n len cs
  | .app n len _ => .app n len cs
  | b => b

theorem Trace.storeRow {S0 S' : St} {r : List Oper} {L : List Ax} {l n i j len m : Nat} {B : Blk} {cs cs' : List Col} {u : AV} {ds : List D} {agg : Bool} (ht : tyOK P t agg m = true) (e1 : Ev S0 true x (.locr l n i j)) (e2 : Ev S0 true y u) (hb : S0.get (bk l) = some (.blk B))
    (hB : B.rowsOf = some (n, len, cs)) (hu : dsOfAV u = some ds) (hm : ds.length = m) (hne : 0 < m) (h1 : ∀ x ∈ ds, (AV.d x).oneB = true) (hset : setCols cs j i ds = some cs') (hi : i < len) (h : Trace P ro ops r ((bk l, (.blk (B.withCols cs'))) :: S0) L S') :
    Trace P ro ops (⟨none, .store t x y, ty, pos, af, none⟩ :: r) S0 (⟨opNames ⟨none, .store t x y, ty, pos, af, none⟩ ++ [bk l], S0, [(bk l, some (.blk (B.withCols cs')))], []⟩ :: L) S' := by
  refine Trace.store (axOp_store rfl rfl rfl hb fun E V M a w hg => ?_) h
  have hblk := hg.blk l (by simp) _ hb
  have hx := hg.opd x (by simp [Op.operands]) _ e1
  have hy := cells_of (hg.opd y (by simp [Op.operands]) _ e2) (cellsL_ds hu)
  have hsz : (a.eval y).cells.size = m := by have := hy.len; simp at this; omega
  have hone : ∀ u ∈ (a.eval y).cells.toList, u.oneCell' = true := hy.one fun x hx => by
    obtain ⟨z, hz, rfl⟩ := List.mem_map.1 hx; exact h1 z hz
  have hds : ∀ (k : Nat) (x : D) (y' : Value), ds[k]? = some x → (a.eval y).cells.toList[k]? = some y' → DenD M x y' := fun k x y' h1 h2 => by
    have := hy.at' k (.d x) y' (by simp [h1]) h2
    cases this with | d _ _ h => exact h
  have hne' : ds ≠ [] := by intro e; subst e; simp at hm; omega
  have hlen : ds.length = (a.eval y).cells.toList.length := by simp [hsz, hm]
  generalize he : a.eval x = v at hx
  cases hx with
  | locr _ _ _ _ =>
    cases B with
    | cells => simp [Blk.rowsOf] at hB
    | data => simp [Blk.rowsOf] at hB
    | lp => simp [Blk.rowsOf] at hB
    | appv => simp [Blk.rowsOf] at hB
    | keys => simp [Blk.rowsOf] at hB
    | cols n' len' cs0 =>
      simp only [Blk.rowsOf, Option.some.injEq, Prod.mk.injEq] at hB
      obtain ⟨rfl, rfl, rfl⟩ := hB
      obtain ⟨hk, vs, tt, hh, hs, hr⟩ := hblk
      obtain ⟨hb1, hb2⟩ := rows_splice hr (by omega) hset hi hne' hlen hds
      exact ⟨hk, _, tt, vs, _, rfl, hh, run_storeVar ht hsz hh (by simpa [hsz] using hb1) hone, fun w' hw' => ⟨hk, _, tt, hw', by rw [List.size_toArray, spliceL_length (by simpa using hb1)]; simpa using hs, hb2⟩⟩
    | app n' len' cs0 =>
      simp only [Blk.rowsOf, Option.some.injEq, Prod.mk.injEq] at hB
      obtain ⟨rfl, rfl, rfl⟩ := hB
      obtain ⟨g1, g2, g3⟩ := hblk
      cases hkl : V.κ l with
      | none => rw [hkl] at g3; simp only at g3; omega
      | some cap =>
        rw [hkl] at g3
        obtain ⟨hcap, vs, tt, hh, hs, hr⟩ := g3
        have hle : len' * n' ≤ cap * n' := Nat.mul_le_mul_right n' hcap
        obtain ⟨hb1, hb2⟩ := rows_splice hr (by omega) hset hi hne' hlen hds
        refine ⟨by simp, _, tt, vs, _, rfl, hh, run_storeVar ht hsz hh (by simpa [hsz] using hb1) hone, fun w' hw' => ⟨hb2.1, hb2.2.1, ?_⟩⟩
        rw [hkl]
        exact ⟨hcap, _, tt, hw', by rw [List.size_toArray, spliceL_length (by simpa using hb1)]; simpa using hs, hb2⟩
end

end Go.Proofs.YtmdfamnnnoieaaaDoor

/- Slices that the function makes and owns: make, composite literals, append, cuts. No program in sight. -/
namespace Go.Proofs.YtmdfamnnnoieaaaDoor
open Go
set_option linter.unusedVariables false
set_option linter.unusedSimpArgs false
variable {P : Program} {S : St} {ro : Ro} {ops : Array Oper}

def Col.oneB : Col → Bool
  | .ints _ _ => true
  | .bools _ => true
  | .ds xs => xs.all fun x => (AV.d x).oneB
theorem col_one {c : Col} (h : c.oneB = true) {i : Nat} (hi : i < c.len) : (AV.d (c.at i)).oneB = true := by
  cases c with
  | ints => rfl
  | bools => rfl
  | ds xs =>
    simp only [Col.oneB, List.all_eq_true] at h
    simp only [Col.len] at hi
    simp only [Col.at, List.getD_eq_getElem?_getD, List.getElem?_eq_getElem hi, Option.getD_some]
    exact h _ (List.getElem_mem hi)

/-- Cells of a block that read as rows. -/
def RowsL (M : Mem) (n len : Nat) (cs : List Col) (us : List Value) : Prop :=
  cs.length = n ∧ (∀ c ∈ cs, c.len = len) ∧ us.length = len * n ∧ ∀ i j c, i < len → cs[j]? = some c → ∃ v, us[i * n + j]? = some v ∧ DenD M (c.at i) v

theorem RowsL.one {M : Mem} {n len : Nat} {cs : List Col} {us : List Value} (h : RowsL M n len cs us) (h1 : ∀ c ∈ cs, c.oneB = true) : ∀ u ∈ us, u.oneCell' = true := by
  intro u hu
  obtain ⟨k, hk, rfl⟩ := List.mem_iff_getElem.1 hu
  obtain ⟨a1, a2, a3, a4⟩ := h
  have hn : 0 < n := by
    rcases Nat.eq_zero_or_pos n with h | h
    · rw [h, Nat.mul_zero] at a3; omega
    · exact h
  have hkn : k / n < len := Nat.div_lt_of_lt_mul (by rw [a3, Nat.mul_comm] at hk; exact hk)
  have hj : k % n < cs.length := by rw [a1]; exact Nat.mod_lt _ hn
  obtain ⟨v, hv, hd⟩ := a4 (k / n) (k % n) cs[k % n] hkn (List.getElem?_eq_getElem hj)
  have he : k / n * n + k % n = k := Nat.div_add_mod' k n
  rw [he, List.getElem?_eq_getElem hk] at hv
  injection hv with hv
  rw [hv]
  refine one_of (V := ⟨fun _ => 0, fun _ => none⟩) (.d _ _ hd) (col_one (h1 _ (List.getElem_mem hj)) (by rw [a2 _ (List.getElem_mem hj)]; exact hkn))

def kindOK (P : Program) (t : TypeId) : Bool := match P.underlying t with
  | some (.slice _) | some .string => true
  | _ => false
theorem kindOK_of {t : TypeId} (h : kindOK P t = true) : (∃ e', P.underlying t = some (.slice e')) ∨ P.underlying t = some .string := by
  unfold kindOK at h
  split at h
  · rename_i e hu; exact .inl ⟨e, hu⟩
  · rename_i hu; exact .inr hu
  · cases h

theorem getD_map' {α β : Type} (f : α → β) (xs : List α) (d : α) (e : β) {i : Nat} (h : i < xs.length) : (xs.map f).getD i e = f (xs.getD i d) := by
  simp [List.getD_eq_getElem?_getD, h]

/-- What an append's second argument brings. -/
inductive SrcOf (S : St) (y : Operand) : List Nat → Nat → Nat → List Col → Prop
  | own {l n len : Nat} {cs : List Col} (e : Ev S true y (.own l len)) (hb : S.get (bk l) = some (.blk (.app n len cs))) : SrcOf S y [l] n len cs
  | sl {l n lo len tot : Nat} {B : Blk} {cs cs' : List Col} (e : Ev S true y (.sl l n lo len)) (hb : S.get (bk l) = some (.blk B)) (hB : B.rowsOf = some (n, tot, cs)) (hle : lo + len ≤ tot) (hl : cs'.length = n) (hc : ∀ c ∈ cs', c.len = len)
      (ha : ∀ (j : Nat) (c' : Col), cs'[j]? = some c' → ∃ c, cs[j]? = some c ∧ ∀ i, i < len → c'.at i = c.at (lo + i)) : SrcOf S y [l] n len cs'
  | rows {n len : Nat} {g : Nat → List D} {cs : List Col} (e : Ev S true y (.d (.rows n len g))) (hl : cs.length = n) (hc : ∀ c ∈ cs, c.len = len) (hg : ∀ i, i < len → g i = cs.map (Col.at · i)) : SrcOf S y [] n len cs
  | nil {n : Nat} {cs : List Col} (e : Ev S true y nilS) (hl : cs.length = n) (hc : ∀ c ∈ cs, c.len = 0) : SrcOf S y [] n 0 cs
  | str {s : ByteArray} (e : Ev S true y (sv s)) : SrcOf S y [] 1 s.size [.ints .u8 (s.data.toList.map fun b => (b.toNat : Int))]

theorem rowsL_of {M : Mem} {n len cap : Nat} {cs : List Col} {vs : Array Value} (h : rowsAt M n len cs vs) (hle : len ≤ cap) (hs : vs.size = cap * n) : RowsL M n len cs (vs.toList.take (len * n)) := by
  have hm : len * n ≤ cap * n := Nat.mul_le_mul_right n hle
  refine ⟨h.1, h.2.1, by simp; omega, fun i j c hi hc => ?_⟩
  obtain ⟨v, hv, hd⟩ := h.2.2 i j c hi hc
  have hj : j < n := by rw [← h.1]; exact (List.getElem?_eq_some_iff.1 hc).1
  have : (i + 1) * n ≤ len * n := Nat.mul_le_mul_right n hi
  rw [Nat.add_mul, Nat.one_mul] at this
  exact ⟨v, by rw [List.getElem?_take_of_lt (by omega)]; simpa using hv, hd⟩

theorem src_of {E : Env} {V : Vals} {M : Mem} {a : Act} {w : World} {o : Oper} {bl0 bl : List Nat} {y : Operand} {n len : Nat} {cs : List Col} {tx : TypeId} (h : SrcOf S y bl n len cs) (hg : Given E S o bl0 true V M a w) (hsub : ∀ l ∈ bl, l ∈ bl0) (hy : y ∈ o.op.operands)
    (hk : kindOK P tx = true) (h1 : ∀ c ∈ cs, c.oneB = true) : ∃ news, Src P n tx (a.eval y) len news w ∧ RowsL M n len cs news := by
  have kind := kindOK_of hk
  have mk : ∀ {b o' : Nat} {cap : Nat} {news : List Value}, RowsL M n len cs news → (∀ j u, news[j]? = some u → w.cell? ⟨b, o' + j, none⟩ = some u) → Src P n tx (.slice (some ⟨b, o', none⟩) len cap) len news w := by
    intro b o' cap news hr hc
    have hl : news.length = len * n := hr.2.2.1
    have hc' : ∀ j u, news[j]? = some u → w.cell? ((⟨b, o', none⟩ : Addr).add j) = some u := fun j u hu => by rw [addr_add]; exact hc j u hu
    exact ⟨kind, fun _ => rfl, run_firstCells_some w n len ⟨b, o', none⟩ len cap news hl hc', run_firstCells_some w.drew n len ⟨b, o', none⟩ len cap news hl (by simpa using hc'), hl, hr.one h1⟩
  have mk0 : ∀ (a0 : Option Addr) (cap : Nat), len = 0 → Src P n tx (.slice a0 len cap) len [] w := by
    intro a0 cap hl
    subst hl
    refine ⟨kind, fun _ => rfl, ?_, ?_, by simp, fun _ h => by cases h⟩ <;> cases a0 <;> simp [Builtin.firstCells, loadCells, loadCellsFrom]
  cases h with
  | @own l _ _ _ e hb =>
    have hy := hg.opd y hy _ e
    obtain ⟨b1, b2, b3⟩ := hg.blk l (hsub l (by simp)) _ hb
    generalize a.eval y = v at hy
    cases hy with
    | own _ _ cap hkl hc =>
      rw [hkl] at b3
      obtain ⟨_, vs, tt, hh, hs, hr⟩ := b3
      have hrl := rowsL_of hr hc hs
      refine ⟨_, mk hrl fun j u hu => ?_, hrl⟩
      rw [List.getElem?_take] at hu
      split at hu
      · simp only [World.cell?, hh, Nat.zero_add]
        simpa using hu
      · cases hu
    | ownNil _ hkl => exact ⟨[], mk0 _ _ rfl, b1, b2, by simp, fun i j c hi _ => absurd hi (by omega)⟩
  | @sl l _ lo _ tot B cs0 _ e hb hB hle hl hc ha =>
    have hy := hg.opd y hy _ e
    have hblk := hg.blk l (hsub l (by simp)) _ hb
    generalize a.eval y = v at hy
    cases hy with
    | sl _ _ _ _ cap hcap hkl =>
      by_cases h0 : len = 0
      · subst h0
        exact ⟨[], mk0 _ _ rfl, hl, hc, by simp, fun i j c hi _ => absurd hi (by omega)⟩
      · obtain ⟨vs, tt, hh, hr⟩ := rows_of hblk hB (by omega)
        have hrl : RowsL M n len cs ((List.range (len * n)).map fun k => vs.getD (lo * n + k) undef) := by
          refine ⟨hl, hc, by simp, fun i j c' hi hc' => ?_⟩
          obtain ⟨c, hcc, hat⟩ := ha j c' hc'
          obtain ⟨u, hu, hdu⟩ := hr.2.2 (lo + i) j c (by omega) hcc
          have hj : j < n := by rw [← hr.1]; exact (List.getElem?_eq_some_iff.1 hcc).1
          have : (i + 1) * n ≤ len * n := Nat.mul_le_mul_right n hi
          rw [Nat.add_mul, Nat.one_mul] at this
          rw [Nat.add_mul, Nat.add_assoc] at hu
          refine ⟨u, ?_, by rw [hat i hi]; exact hdu⟩
          rw [List.getElem?_map, List.getElem?_range (by omega)]
          simp [Array.getD_eq_getD_getElem?, hu]
        refine ⟨_, mk hrl fun j u hu => ?_, hrl⟩
        simp only [List.getElem?_map, Option.map_eq_some_iff] at hu
        obtain ⟨k, hk', rfl⟩ := hu
        have hjk : j < len * n := by
          have := (List.getElem?_eq_some_iff.1 hk').1
          simpa using this
        rw [List.getElem?_range hjk] at hk'
        injection hk' with hk'; subst hk'
        have hn : 0 < n := by
          rcases Nat.eq_zero_or_pos n with h | h
          · subst h; omega
          · exact h
        have hjn : j / n < len := Nat.div_lt_of_lt_mul (by rw [Nat.mul_comm]; exact hjk)
        have hmod : j % n < cs0.length := by rw [hr.1]; exact Nat.mod_lt _ hn
        obtain ⟨u, hu, _⟩ := hr.2.2 (lo + j / n) (j % n) cs0[j % n] (by omega) (List.getElem?_eq_getElem hmod)
        have he : (lo + j / n) * n + j % n = lo * n + j := by rw [Nat.add_mul, Nat.add_assoc, Nat.div_add_mod']
        rw [he] at hu
        simp [World.cell?, hh, hu, Array.getD_eq_getD_getElem?]
    | slEmp => exact ⟨[], mk0 _ _ rfl, hl, hc, by simp, fun i j c hi _ => absurd hi (by omega)⟩
  | rows e hl hc hgr =>
    have hy := hg.opd y hy _ e
    generalize a.eval y = v at hy
    cases hy with
    | d _ _ hy =>
      cases hy with
      | emp => exact ⟨[], mk0 _ _ rfl, hl, hc, by simp, fun i j c hi _ => absurd hi (by omega)⟩
      | rows _ _ _ b o' cap hcap hgl f hm hd =>
        have hrl : RowsL M n len cs ((List.range (len * n)).map fun k => f (k / n) (k % n)) := by
          refine ⟨hl, hc, by simp, fun i j c hi hcj => ?_⟩
          have hj : j < n := by rw [← hl]; exact (List.getElem?_eq_some_iff.1 hcj).1
          have : (i + 1) * n ≤ len * n := Nat.mul_le_mul_right n hi
          rw [Nat.add_mul, Nat.one_mul] at this
          have e1 : (i * n + j) / n = i := by rw [Nat.mul_comm, Nat.mul_add_div (by omega)]; simp [Nat.div_eq_of_lt hj]
          have e2 : (i * n + j) % n = j := by rw [Nat.mul_comm, Nat.mul_add_mod]; exact Nat.mod_eq_of_lt hj
          refine ⟨f i j, ?_, hd i j _ hi ?_⟩
          · rw [List.getElem?_map, List.getElem?_range (by omega)]
            simp [e1, e2]
          · rw [hgr i hi, List.getElem?_map, hcj]; rfl
        refine ⟨_, mk hrl fun j u hu => ?_, hrl⟩
        simp only [List.getElem?_map, Option.map_eq_some_iff] at hu
        obtain ⟨k, hk', rfl⟩ := hu
        have hjk : j < len * n := by
          have := (List.getElem?_eq_some_iff.1 hk').1
          simpa using this
        rw [List.getElem?_range hjk] at hk'
        injection hk' with hk'; subst hk'
        have hn : 0 < n := by
          rcases Nat.eq_zero_or_pos n with h | h
          · subst h; omega
          · exact h
        have hjn : j / n < len := Nat.div_lt_of_lt_mul (by rw [Nat.mul_comm]; exact hjk)
        have := hm (j / n) (j % n) hjn (Nat.mod_lt _ hn)
        rw [Nat.div_add_mod'] at this
        exact hg.mem _ _ _ this
  | nil e hl hc =>
    have hy := hg.val hy e
    rw [hy]
    exact ⟨[], mk0 _ _ rfl, hl, hc, by simp, fun i j c hi _ => absurd hi (by omega)⟩
  | @str s e =>
    have hy := hg.val hy e
    rw [hy]
    refine ⟨byteCells s, ⟨kind, fun _ => rfl, firstCells_string s w, firstCells_string s w.drew, by rw [byteCells_length, Nat.mul_one], fun u hu => by obtain ⟨_, _, rfl⟩ := List.mem_map.1 hu; rfl⟩, rfl, by simp [Col.len], by rw [byteCells_length, Nat.mul_one], fun i j c hi hc => ?_⟩
    cases j with
    | zero =>
      simp at hc; subst hc
      have hi' : i < s.data.toList.length := by simpa using hi
      refine ⟨.int .u8 (s.data.toList[i]).toNat, ?_, ?_⟩
      · unfold byteCells
        rw [List.getElem?_map, Nat.mul_one, Nat.add_zero, List.getElem?_eq_getElem hi']; rfl
      · simp only [Col.at]
        rw [getD_map' _ _ 0 _ hi', List.getD_eq_getElem?_getD, List.getElem?_eq_getElem hi']
        exact .v _
    | succ j => simp at hc

/-! Columns, one behind the other. -/
def Col.cat : Col → Col → Col
  | .ints k xs, .ints k' ys => if k = k' then .ints k (xs ++ ys) else .ds ((xs.map fun m => .v (.int k m)) ++ ys.map fun m => .v (.int k' m))
  | .bools xs, .bools ys => .bools (xs ++ ys)
  | .ds xs, .ds ys => .ds (xs ++ ys)
  | .ds xs, .ints k ys => .ds (xs ++ ys.map fun m => .v (.int k m))
  | .ds xs, .bools ys => .ds (xs ++ ys.map fun m => .v (.bool m))
  | .ints k xs, .ds ys => .ds ((xs.map fun m => .v (.int k m)) ++ ys)
  | .bools xs, .ds ys => .ds ((xs.map fun m => .v (.bool m)) ++ ys)
  | .ints k xs, .bools ys => .ds ((xs.map fun m => .v (.int k m)) ++ ys.map fun m => .v (.bool m))
  | .bools xs, .ints k ys => .ds ((xs.map fun m => .v (.bool m)) ++ ys.map fun m => .v (.int k m))
theorem getD_append {α : Type} (xs ys : List α) (d : α) (i : Nat) : (xs ++ ys).getD i d = if i < xs.length then xs.getD i d else ys.getD (i - xs.length) d := by
  simp only [List.getD_eq_getElem?_getD, List.getElem?_append]
  split <;> rfl
theorem col_cat (c c' : Col) : (c.cat c').len = c.len + c'.len ∧ ∀ i, i < c.len + c'.len → (c.cat c').at i = if i < c.len then c.at i else c'.at (i - c.len) := by
  cases c <;> cases c' <;> simp only [Col.cat]
  all_goals try split
  all_goals refine ⟨by simp [Col.len], fun i hi => ?_⟩
  all_goals split
  all_goals rename_i h
  all_goals simp only [Col.len] at h hi
  all_goals simp only [Col.at, Col.len, getD_append, List.length_map, h, if_true, if_false]
  all_goals first
    | rfl
    | (rename_i h1; subst h1; rfl)
    | (rw [getD_map' _ _ 0 _ (by omega)]; done)
    | (rw [getD_map' _ _ false _ (by omega)]; done)
def catCols : List Col → List Col → List Col
  | c :: cs, d :: ds => c.cat d :: catCols cs ds
  | _, _ => []
theorem catCols_spec {l1 l2 : Nat} : ∀ (cs ds : List Col), cs.length = ds.length → (∀ c ∈ cs, c.len = l1) → (∀ c ∈ ds, c.len = l2) →
    (catCols cs ds).length = cs.length ∧ (∀ c ∈ catCols cs ds, c.len = l1 + l2) ∧ ∀ (j : Nat) (c : Col), (catCols cs ds)[j]? = some c → ∃ (a b : Col), cs[j]? = some a ∧ ds[j]? = some b ∧ ∀ i, i < l1 + l2 → c.at i = if i < l1 then a.at i else b.at (i - l1)
  | [], [], _, _, _ => ⟨rfl, fun _ h => (by cases h), fun j c h => by simp [catCols] at h⟩
  | c :: cs, [], h, _, _ => by simp at h
  | [], d :: ds, h, _, _ => by simp at h
  | c :: cs, d :: ds, h, h1, h2 => by
    obtain ⟨a1, a2, a3⟩ := catCols_spec cs ds (by simpa using h) (fun x hx => h1 x (by simp [hx])) (fun x hx => h2 x (by simp [hx]))
    have hc := h1 c (by simp)
    have hd := h2 d (by simp)
    obtain ⟨b1, b2⟩ := col_cat c d
    refine ⟨by simp [catCols, a1], fun x hx => ?_, fun j x hx => ?_⟩
    · simp only [catCols, List.mem_cons] at hx
      rcases hx with rfl | hx
      · rw [b1, hc, hd]
      · exact a2 x hx
    · cases j with
      | zero => simp [catCols] at hx; subst hx; exact ⟨c, d, rfl, rfl, fun i hi => by rw [b2 i (by omega), hc]⟩
      | succ j => simp [catCols] at hx; simpa using a3 j x hx

theorem RowsL.cat {M : Mem} {n l1 l2 : Nat} {cs ds : List Col} {us vs : List Value} (h : RowsL M n l1 cs us) (k : RowsL M n l2 ds vs) : RowsL M n (l1 + l2) (catCols cs ds) (us ++ vs) := by
  obtain ⟨a1, a2, a3, a4⟩ := h
  obtain ⟨b1, b2, b3, b4⟩ := k
  obtain ⟨c1, c2, c3⟩ := catCols_spec cs ds (by rw [a1, b1]) a2 b2
  refine ⟨by rw [c1, a1], c2, by simp [a3, b3, Nat.add_mul], fun i j c hi hc => ?_⟩
  obtain ⟨a, b, ha, hb, hat⟩ := c3 j c hc
  have hj : j < n := by rw [← a1]; exact (List.getElem?_eq_some_iff.1 ha).1
  rw [hat i hi]
  by_cases h : i < l1
  · rw [if_pos h]
    obtain ⟨v, hv, hd⟩ := a4 i j a h ha
    have : (i + 1) * n ≤ l1 * n := Nat.mul_le_mul_right n h
    rw [Nat.add_mul, Nat.one_mul] at this
    exact ⟨v, by rw [List.getElem?_append_left (by omega)]; exact hv, hd⟩
  · rw [if_neg h]
    obtain ⟨v, hv, hd⟩ := b4 (i - l1) j b (by omega) hb
    have e : i * n = l1 * n + (i - l1) * n := by rw [← Nat.add_mul]; congr 1; omega
    refine ⟨v, ?_, hd⟩
    rw [List.getElem?_append_right (by omega), a3, e]
    rw [show l1 * n + (i - l1) * n + j - l1 * n = (i - l1) * n + j by omega]
    exact hv
theorem RowsL.at {M : Mem} {n len : Nat} {cs : List Col} {us vs : List Value} (h : RowsL M n len cs us) : rowsAt M n len cs (us ++ vs).toArray := by
  obtain ⟨a1, a2, a3, a4⟩ := h
  refine ⟨a1, a2, fun i j c hi hc => ?_⟩
  obtain ⟨v, hv, hd⟩ := a4 i j c hi hc
  have hlt := (List.getElem?_eq_some_iff.1 hv).1
  exact ⟨v, by simp only [List.getElem?_toArray]; rw [List.getElem?_append_left hlt]; exact hv, hd⟩

theorem WStep.drewAlloc (w : World) (o : Obj) : WStep w (w.drew.alloc o) w.heap.size :=
  ⟨rfl, rfl, rfl, by show w.heap.size ≤ (w.heap.push o).size; simp, fun b hb hlt => by show (w.heap.push o)[b]? = _; simp [Array.getElem?_push, hb], by show _ < (w.heap.push o).size; simp⟩

/-! append. -/
theorem run_append_room' {t tx ty e : TypeId} {i : TypeInfo} (ht : P.underlying t = some (.slice e)) (hi : P.info? e = some i) {w : World} {b sLen sCap : Nat} {x : Value} {n : Nat} {news : List Value} {tt : TypeId} {cur : Array Value} (hs : Src P i.size tx x n news w)
    (hroom : sLen + n ≤ sCap) (hb : w.heap[b]? = some (.cells cur tt (0, 0))) (ho : sLen * i.size + news.length ≤ cur.size) :
    (Builtin.append_ #[t, tx] ty #[.slice (some ⟨b, 0, none⟩) sLen sCap, x]).run P w = .ok (.slice (some ⟨b, 0, none⟩) (sLen + n) sCap) (w.setRow b (spliceL cur.toList (sLen * i.size) news).toArray) := by
  have hst := run_storeCells_at (P := P) b (sLen * i.size) tt news 0 cur w hb (by simpa using ho) hs.one
  simp only [Nat.add_zero] at hst
  have hadd : (⟨b, 0, none⟩ : Addr).add (sLen * i.size) = ⟨b, sLen * i.size, none⟩ := by rw [addr_add, Nat.zero_add]
  rcases hs.kind with ⟨e', hk⟩ | hk <;> simp [Builtin.append_, run_underlying ht, run_underlying hk, sizeOf, typeInfo, hi, hs.len, hroom, hs.cells, hadd, hst, spliceL]
theorem run_append_none {t tx ty e : TypeId} {i : TypeInfo} (ht : P.underlying t = some (.slice e)) (hi : P.info? e = some i) {w : World} {x : Value} {news : List Value} (hs : Src P i.size tx x 0 news w) :
    (Builtin.append_ #[t, tx] ty #[.slice none 0 0, x]).run P w = .ok (.slice none 0 0) w := by
  rcases hs.kind with ⟨e', hk⟩ | hk <;> simp [Builtin.append_, run_underlying ht, run_underlying hk, sizeOf, typeInfo, hi, hs.len, hs.cells]

/-- The slice that is appended to: nil, or one that the function owns. -/
inductive DstOf (S : St) (x : Operand) (n : Nat) : List Nat → Nat → List Col → Prop
  | nil (e : Ev S true x nilS) : DstOf S x n [] 0 []
  | own {l len : Nat} {cs : List Col} (e : Ev S true x (.own l len)) (hb : S.get (bk l) = some (.blk (.app n len cs))) : DstOf S x n [l] len cs

/-- The columns of what comes out. -/
def joined (old new : List Col) : List Col := match old with
  | [] => new
  | _ => catCols old new

def appOK (P : Program) (t : TypeId) (n bytes : Nat) : Bool := match P.underlying t with
  | some (.slice e) => (match P.info? e with | some i => Nat.beq i.size n && Nat.beq i.bytes bytes && (match i.zero with | some z => Nat.beq z.cells.size n | none => false) | none => false)
  | _ => false

theorem axOp_append {S0 : St} {o : Oper} {x y : Operand} {t tx : TypeId} {d l' n bytes len1 len2 : Nat} {bl1 bl2 ds : List Nat} {cs1 cs2 : List Col} (ho : o.op = .call ⟨.builtin .append, #[x, y], #[t, tx]⟩) (hdst : o.dst = some d) (hgd : o.guard = none)
    (ht : appOK P t n bytes = true) (hk : kindOK P tx = true) (hn : 0 < n) (hx : DstOf S0 x n bl1 len1 cs1) (hy : SrcOf S0 y bl2 n len2 cs2) (h1 : ∀ c ∈ cs2, c.oneB = true) (hlab : ∀ l ∈ bl1, l = l' ∨ bk l ∈ ds)
    (hbd : (len1 + len2) * bytes ≤ 140737488355328) (hb63 : len1 + len2 ≤ 140737488355328) :
    AxOp P ro ops o ⟨opNames o ++ (bl1 ++ bl2).map bk, S0, postOf ds l' (.app n (len1 + len2) (joined cs1 cs2)) d (.own l' (len1 + len2)), [l']⟩ := by
  intro E S a w hs hf hok ⟨V, M, ha, hw⟩ Q hpn
  have hd : d < E.nt := hok.2 d (names_postOf.2 (.inr (.inr rfl)))
  have hkp : l' ∉ E.keep := hok.1 l' (by simp)
  have hg : Given E S0 o (bl1 ++ bl2) true V M a w := given_of (rn := opNames o ++ (bl1 ++ bl2).map bk) hs (fun n hn => by simp [hn]) (fun l hl => by simp only [List.mem_append, List.mem_map]; right; exact ⟨l, by simpa using hl, rfl⟩) rfl ha hw
  have hyo : y ∈ o.op.operands := by rw [ho]; simp [Op.operands, Call.operands]
  have hxo : x ∈ o.op.operands := by rw [ho]; simp [Op.operands, Call.operands]
  obtain ⟨news, hsrc, hrows⟩ := src_of (P := P) (tx := tx) hy hg (fun l hl => by simp [hl]) hyo hk h1
  unfold stepIn
  rw [if_pos (by simp [Region.wanted, hgd])]
  have hnd : ∀ d, o.op ≠ .defer d := fun d h => by rw [ho] at h; cases h
  have hrun : ∀ {v : Value} {w' : World} {ux : Value}, a.eval x = ux → (Builtin.append_ #[t, tx] o.type #[ux, a.eval y]).run P w = .ok v w' → (execOp a.eval o).run P w = .ok (.value v) w' := by
    intro v w' ux hux hr
    generalize a.eval = ρ at *
    simp only [execOp, ho, resolve, Sem.run_bind, Sem.run_pure, Result.andThen, invoke, builtin]
    simp [hux, hr]
  unfold appOK at ht
  split at ht
  · rename_i e hu
    split at ht
    · rename_i inf hi
      simp only [Bool.and_eq_true] at ht
      obtain ⟨⟨ht1, ht2⟩, ht3⟩ := ht
      have e1 := Nat.eq_of_beq_eq_true ht1
      have e2 := Nat.eq_of_beq_eq_true ht2
      obtain ⟨z, hz, hzs⟩ : ∃ z, inf.zero = some z ∧ z.cells.size = n := by
        cases hz : inf.zero with
        | none => rw [hz] at ht3; cases ht3
        | some z => rw [hz] at ht3; exact ⟨z, rfl, Nat.eq_of_beq_eq_true ht3⟩
      rw [← e1] at hsrc
      -- the arm that makes a new row
      have grow : ∀ (base : Option Addr) (sCap : Nat) (olds : List Value), a.eval x = .slice base len1 sCap → sCap < len1 + len2 → (Builtin.firstCells inf.size len1 (.slice base len1 sCap)).run P w.drew = .ok olds.toArray w.drew →
          RowsL M n (len1 + len2) (joined cs1 cs2) (olds ++ news) → o.wpIn (FW ro) 0 P a w (Rep E (S.upd (postOf ds l' (.app n (len1 + len2) (joined cs1 cs2)) d (.own l' (len1 + len2))))) Q := by
        intro base sCap olds hex hlt hold hrl
        have hgr := run_append_grow_src (P := P) w t tx o.type e inf z hu hi hz base len1 sCap olds hold (a.eval y) len2 news hsrc hlt (by omega) (growslice_fits (need := len1 + len2) (old := sCap) hlt (by rw [e2]; exact hbd))
        refine wpIn_of_value hnd (hrun hex hgr) ?_
        rw [hdst]
        have hcap : len1 + len2 ≤ grownCap w (len1 + len2) sCap e := by unfold grownCap; exact Nat.le_add_right _ _
        refine rep_step ha hw (WStep.drewAlloc w _) (.inl rfl) (hf l' (by simp)) hkp hd (κ' := some (grownCap w (len1 + len2) sCap e)) ?_ ?_
        · refine ⟨hrl.1, hrl.2.1, ?_⟩
          rw [Vals.set_κ]
          refine ⟨hcap, ((olds ++ news).toArray ++ Builtin.zeroCells z.cells (grownCap w (len1 + len2) sCap e - (len1 + len2))), e, ?_, ?_, ?_⟩
          · rw [Vals.set_ρ]; exact heap_alloc w.drew _
          · have h1 : (Builtin.zeroCells z.cells (grownCap w (len1 + len2) sCap e - (len1 + len2))).size = (grownCap w (len1 + len2) sCap e - (len1 + len2)) * n := by
              simp [Builtin.zeroCells, hzs]
            have h2 := hrl.2.2.1
            rw [Array.size_append, h1, List.size_toArray, h2, ← Nat.add_mul]
            congr 1
            omega
          · have := hrl.at (vs := (Builtin.zeroCells z.cells (grownCap w (len1 + len2) sCap e - (len1 + len2))).toList)
            have es : ((olds ++ news) ++ (Builtin.zeroCells z.cells (grownCap w (len1 + len2) sCap e - (len1 + len2))).toList).toArray = (olds ++ news).toArray ++ Builtin.zeroCells z.cells (grownCap w (len1 + len2) sCap e - (len1 + len2)) := by
              apply Array.ext'
              simp
            rw [← es]
            exact this
        · have := Den.own (V := V.set l' w.heap.size (some (grownCap w (len1 + len2) sCap e))) (M := M) l' (len1 + len2) _ (by rw [Vals.set_κ]) hcap
          rw [Vals.set_ρ] at this
          exact this
      cases hx with
      | nil ex =>
        have hex := hg.val hxo ex
        by_cases h0 : len2 = 0
        · subst h0
          refine wpIn_of_value hnd (hrun hex (run_append_none hu hi hsrc)) ?_
          rw [hdst]
          refine rep_nil ha hw (hf l' (by simp)) hkp hd ⟨hrows.1, by simpa [joined] using hrows.2.1, by simp⟩ (.ownNil l' (by simp))
        · refine grow none 0 [] hex (by omega) (by simp [Builtin.firstCells]) ?_
          simpa [joined] using hrows
      | @own l _ _ ex hb =>
        have hxd := hg.opd x hxo _ ex
        obtain ⟨b1, b2, b3⟩ := hg.blk l (by simp) _ hb
        have hSl : S.get (bk l) = some (.blk (.app n len1 cs1)) := by rw [hs (bk l) (by simp)]; exact hb
        have hj : joined cs1 cs2 = catCols cs1 cs2 := by
          cases cs1 with
          | nil => simp at b1; omega
          | cons => rfl
        generalize hex : a.eval x = v at hxd
        cases hxd with
        | ownNil _ hkl =>
          by_cases h0 : len2 = 0
          · subst h0
            refine wpIn_of_value hnd (hrun hex (run_append_none hu hi hsrc)) ?_
            rw [hdst, hj]
            obtain ⟨c1, c2, c3⟩ := catCols_spec cs1 cs2 (by rw [b1, hrows.1]) b2 hrows.2.1
            exact rep_nil ha hw (by have := hf l' (by simp); rwa [hj] at this) hkp hd ⟨by rw [c1, b1], c2, by simp⟩ (.ownNil l' (by simp))
          · refine grow none 0 [] hex (by omega) (by simp [Builtin.firstCells]) ?_
            rw [hj]
            have h00 : RowsL M n 0 cs1 [] := ⟨b1, b2, by simp, fun i j c hi _ => absurd hi (by omega)⟩
            exact h00.cat hrows
        | own _ _ cap hkl hcl =>
          rw [hkl] at b3
          obtain ⟨_, vs, tt, hh, hsz, hr⟩ := b3
          have hrl := rowsL_of hr hcl hsz
          have hall := hrl.cat hrows
          have hnl : news.length = len2 * n := hrows.2.2.1
          by_cases hroom : len1 + len2 ≤ cap
          · have hfit : len1 * inf.size + news.length ≤ vs.size := by
              rw [e1, hnl, hsz, ← Nat.add_mul]; exact Nat.mul_le_mul_right n hroom
            refine wpIn_of_value hnd (hrun hex (run_append_room' hu hi hsrc hroom hh hfit)) ?_
            rw [hdst]
            have hbl : HasB V S l := ⟨⟨_, hSl⟩, by rw [hkl]; simp⟩
            refine rep_step ha hw (WStep.setRow w _ _ (hw.bd l hbl)) (.inr ⟨l, hbl, rfl, ?_⟩) (hf l' (by simp)) hkp hd (κ' := some cap) ?_ ?_
            · rcases hlab l (by simp) with h | h
              · exact .inr h
              · exact .inl h
            · refine ⟨by rw [hj]; exact hall.1, by rw [hj]; exact hall.2.1, ?_⟩
              rw [Vals.set_κ]
              refine ⟨hroom, _, tt, by rw [Vals.set_ρ]; exact setRow_heap w _ _ _ _ _ hh, ?_, ?_⟩
              · rw [List.size_toArray, spliceL_length (by simpa using hfit)]; simpa using hsz
              · rw [hj]
                have := hall.at (vs := vs.toList.drop (len1 * inf.size + news.length))
                have es : spliceL vs.toList (len1 * inf.size) news = vs.toList.take (len1 * n) ++ news ++ vs.toList.drop (len1 * inf.size + news.length) := by rw [← e1]; rfl
                rw [es]
                exact this
            · have := Den.own (V := V.set l' (V.ρ l) (some cap)) (M := M) l' (len1 + len2) cap (by rw [Vals.set_κ]) hroom
              rw [Vals.set_ρ] at this
              exact this
          · refine grow (some ⟨V.ρ l, 0, none⟩) cap (vs.toList.take (len1 * n)) hex (by omega) ?_ (by rw [hj]; exact hall)
            refine run_firstCells_some w.drew inf.size len1 ⟨V.ρ l, 0, none⟩ len1 cap _ (by rw [e1]; exact hrl.2.2.1) fun j u hu => ?_
            rw [addr_add, Nat.zero_add]
            rw [List.getElem?_take] at hu
            split at hu
            · show w.cell? _ = _
              simp only [World.cell?, hh]
              simpa using hu
            · cases hu
    · cases ht
  · cases ht


theorem Trace.append {S0 S' : St} {r : List Oper} {L : List Ax} {x y : Operand} {t tx ty : TypeId} {pos : String} {af : Array Edge} {d n bytes len1 len2 : Nat} {bl1 bl2 : List Nat} {cs1 cs2 cs : List Col} (l' : Nat) (ds : List Nat)
    (ht : appOK P t n bytes = true) (hk : kindOK P tx = true) (hn : 0 < n) (hx : DstOf S0 x n bl1 len1 cs1) (hy : SrcOf S0 y bl2 n len2 cs2) (h1 : ∀ c ∈ cs2, c.oneB = true) (hlab : ∀ l ∈ bl1, l = l' ∨ bk l ∈ ds)
    (hbd : (len1 + len2) * bytes ≤ 140737488355328) (hb63 : len1 + len2 ≤ 140737488355328) (hcs : joined cs1 cs2 = cs)
    (hf : freshB ⟨opNames ⟨some d, .call ⟨.builtin .append, #[x, y], #[t, tx]⟩, ty, pos, af, none⟩ ++ (bl1 ++ bl2).map bk, S0, postOf ds l' (.app n (len1 + len2) cs) d (.own l' (len1 + len2)), [l']⟩ S0 = true)
    (h : Trace P ro ops r (S0.after ds l' (.app n (len1 + len2) cs) d (.own l' (len1 + len2))) L S') :
    Trace P ro ops (⟨some d, .call ⟨.builtin .append, #[x, y], #[t, tx]⟩, ty, pos, af, none⟩ :: r) S0 (⟨opNames ⟨some d, .call ⟨.builtin .append, #[x, y], #[t, tx]⟩, ty, pos, af, none⟩ ++ (bl1 ++ bl2).map bk, S0, postOf ds l' (.app n (len1 + len2) cs) d (.own l' (len1 + len2)), [l']⟩ :: L) S' := by
  subst hcs
  exact Trace.new ds (axOp_append rfl rfl rfl ht hk hn hx hy h1 hlab hbd hb63) hf h

end Go.Proofs.YtmdfamnnnoieaaaDoor

/- Composite literals of slices, make, cuts; and turns of a state that no operation makes: forgetting, renaming, freezing. No program in sight. -/
namespace Go.Proofs.YtmdfamnnnoieaaaDoor
open Go
set_option linter.unusedVariables false
set_option linter.unusedSimpArgs false
variable {P : Program} {S : St} {ro : Ro} {ops : Array Oper}

/-! A column out of given cells. -/
def intsOf? (k : IntKind) : List D → Option (List Int)
  | [] => some []
  | .v (.int k' m) :: r => if k = k' then (match intsOf? k r with | some l => some (m :: l) | none => none) else none
  | _ :: _ => none
def boolsOf? : List D → Option (List Bool)
  | [] => some []
  | .v (.bool m) :: r => (match boolsOf? r with | some l => some (m :: l) | none => none)
  | _ :: _ => none
def colOf (l : List D) : Col := match l with
  | .v (.int k _) :: _ => (match intsOf? k l with | some xs => .ints k xs | none => .ds l)
  | .v (.bool _) :: _ => (match boolsOf? l with | some xs => .bools xs | none => .ds l)
  | _ => .ds l
theorem intsOf_eq {k : IntKind} : ∀ {l : List D} {xs : List Int}, intsOf? k l = some xs → l = xs.map fun m => .v (.int k m)
  | [], xs, h => by simp only [intsOf?, Option.some.injEq] at h; subst h; rfl
  | x :: r, xs, h => by
    cases x with
    | v u =>
      cases u with
      | int k' m =>
        simp only [intsOf?] at h
        split at h
        · rename_i hk; subst hk
          split at h
          · rename_i l hl; injection h with h; subst h; rw [intsOf_eq hl]; rfl
          · cases h
        · cases h
      | _ => simp [intsOf?] at h
    | _ => simp [intsOf?] at h
theorem boolsOf_eq : ∀ {l : List D} {xs : List Bool}, boolsOf? l = some xs → l = xs.map fun m => .v (.bool m)
  | [], xs, h => by simp only [boolsOf?, Option.some.injEq] at h; subst h; rfl
  | x :: r, xs, h => by
    cases x with
    | v u =>
      cases u with
      | bool m =>
        simp only [boolsOf?] at h
        split at h
        · rename_i l hl; injection h with h; subst h; rw [boolsOf_eq hl]; rfl
        · cases h
      | _ => simp [boolsOf?] at h
    | _ => simp [boolsOf?] at h
theorem colOf_spec (l : List D) : (colOf l).len = l.length ∧ ∀ i, i < l.length → (colOf l).at i = l.getD i (.v .nilFunc) := by
  unfold colOf
  split
  · split
    · rename_i xs h
      have := intsOf_eq h
      rw [this]
      refine ⟨by simp [Col.len], fun i hi => ?_⟩
      simp only [Col.at]
      rw [getD_map' _ _ 0 _ (by simpa using hi)]
    · exact ⟨rfl, fun i hi => rfl⟩
  · split
    · rename_i xs h
      have := boolsOf_eq h
      rw [this]
      refine ⟨by simp [Col.len], fun i hi => ?_⟩
      simp only [Col.at]
      rw [getD_map' _ _ false _ (by simpa using hi)]
    · exact ⟨rfl, fun i hi => rfl⟩
  · exact ⟨rfl, fun i hi => rfl⟩
def colsFrom (n len : Nat) (ds : List D) : List Col := (List.range n).map fun j => colOf ((List.range len).map fun i => ds.getD (i * n + j) (.v .nilFunc))
theorem colsFrom_rows {V : Vals} {M : Mem} {n len : Nat} {ds : List D} {vs : List Value} (hl : ds.length = len * n) (h : DenL V M (ds.map .d) vs) : RowsL M n len (colsFrom n len ds) vs := by
  refine ⟨by simp [colsFrom], fun c hc => ?_, by rw [← hl]; simpa using h.len.symm, fun i j c hi hc => ?_⟩
  · obtain ⟨j, _, rfl⟩ := List.mem_map.1 hc
    rw [(colOf_spec _).1]; simp
  · simp only [colsFrom, List.getElem?_map, Option.map_eq_some_iff] at hc
    obtain ⟨j', hj', rfl⟩ := hc
    have hj : j < n := by simpa using (List.getElem?_eq_some_iff.1 hj').1
    rw [List.getElem?_range hj] at hj'
    injection hj' with hj'; subst hj'
    have : (i + 1) * n ≤ len * n := Nat.mul_le_mul_right n hi
    rw [Nat.add_mul, Nat.one_mul] at this
    have hlt : i * n + j < ds.length := by omega
    have hlv : i * n + j < vs.length := by have := h.len; simp at this; omega
    refine ⟨vs[i * n + j], List.getElem?_eq_getElem hlv, ?_⟩
    rw [(colOf_spec _).2 i (by simpa using hi), getD_map' _ _ 0 _ (by simpa using hi)]
    have hri : (List.range len).getD i 0 = i := by simp [List.getD_eq_getElem?_getD, hi]
    rw [hri, List.getD_eq_getElem?_getD, List.getElem?_eq_getElem hlt, Option.getD_some]
    have := h.at' (i * n + j) (.d ds[i * n + j]) vs[i * n + j] (by simp [hlt]) (List.getElem?_eq_getElem hlv)
    cases this with | d _ _ h => exact h

/-- What fills a new row: the zero value's cells, over and over. -/
theorem zeros_arr (zs : List Value) (N : Nat) (hn : 0 < zs.length) : (Array.range N).map (fun k => zs.toArray[k % zs.toArray.size]!) = ((List.range N).map fun k => zs.getD (k % zs.length) undef).toArray := by
  apply Array.ext'
  simp only [Array.toList_map, Array.toList_range]
  apply List.map_congr_left
  intro k hk
  have : k % zs.length < zs.length := Nat.mod_lt _ hn
  simp only [List.size_toArray]
  rw [getElem!_pos zs.toArray (k % zs.length) (by simpa using this)]
  simp [List.getD_eq_getElem?_getD, this]
theorem zeros_run {t : TypeId} {z : Value} {N : Nat} {w : World} {α : Type} {k : Array Value → Sem α} {r : Result α} (hr : (zeroValue t).run P w = .ok z w) (h : (k z.cells).run P w = r) (h0 : N = 0 → (k #[]).run P w = r) :
    (if N = 0 then (do let zero ← (_root_.Pure.pure #[] : Sem (Array Value)); k zero) else (do let v ← zeroValue t; let zero ← (_root_.Pure.pure v.cells : Sem (Array Value)); k zero)).run P w = r := by
  by_cases hN : N = 0
  · rw [if_pos hN]; exact h0 hN
  · rw [if_neg hN, Sem.run_bind, hr]; exact h

section
variable {x y : Operand} {ty t e : TypeId} {pos : String} {af : Array Edge} {d : Nat}

def sliceOf (P : Program) (t e n : Nat) : Bool := (match P.underlying t with | some (.slice e') => Nat.beq e' e | _ => false) && (match P.info? e with | some i => Nat.beq i.size n | none => false)
theorem sliceOf_of {n : Nat} (h : sliceOf P t e n = true) : P.underlying t = some (.slice e) ∧ ∀ w, (sizeOf e).run P w = .ok n w := by
  simp only [sliceOf, Bool.and_eq_true] at h
  obtain ⟨h1, h2⟩ := h
  constructor
  · split at h1
    · rename_i e' hu; rw [hu, Nat.eq_of_beq_eq_true h1]
    · cases h1
  · intro w
    cases hi : P.info? e with
    | none => rw [hi] at h2; cases h2
    | some i => rw [hi] at h2; rw [run_sizeOf _ hi]; simp [Program.cellsOf, hi, Nat.eq_of_beq_eq_true h2]

/-- []T{..}: all elements given or zero. -/
theorem Trace.buildSlice {S' : St} {r : List Oper} {L : List Ax} {parts : Array (Nat × Operand)} {zs : List Value} {n len : Nat} {l : List AV} {dl : List D} {cs : List Col} (lb : Nat) (ds : List Nat)
    (ht : sliceOf P t e n = true) (hz : ZeroIs P e zs) (hzn : zs.length = n) (hn : 0 < n) (hlen : len * n ≤ 16777216) (hf : Fills S (fun i => some (i * n, n)) (vals ((List.range (len * n)).map fun k => zs.getD (k % n) undef)) parts.toList l)
    (hd : dsOf l = some dl) (hcs : colsFrom n len dl = cs)
    (hfr : freshB ⟨opNames ⟨some d, .buildSlice t len parts, ty, pos, af, none⟩, S, postOf ds lb (.app n len cs) d (.own lb len), [lb]⟩ S = true) (h : Trace P ro ops r (S.after ds lb (.app n len cs) d (.own lb len)) L S') :
    Trace P ro ops (⟨some d, .buildSlice t len parts, ty, pos, af, none⟩ :: r) S (⟨opNames ⟨some d, .buildSlice t len parts, ty, pos, af, none⟩ ++ ([] : List Nat).map bk, S, postOf ds lb (.app n len cs) d (.own lb len), [lb]⟩ :: L) S' := by
  subst hcs
  refine Trace.new ds (axOp_new rfl rfl (fun _ h => nomatch h) fun E V M a w h => ?_) (by simpa using hfr) h
  have hop : ∀ p ∈ parts.toList, ∀ y, Ev S true p.2 y → Den V M y (a.eval p.2) := fun p hp y hy => h.opd p.2 (by simp only [Op.operands, List.mem_toArray, List.mem_map]; exact ⟨p, hp, rfl⟩) y hy
  generalize a.eval = ρ at *
  obtain ⟨z, hzs, hr⟩ := zeroIs_run hz
  obtain ⟨hu, hsz⟩ := sliceOf_of ht
  obtain ⟨vs', hfl, hv'⟩ := fills_run hf hop (denL_vals V M _)
  have hds := dsOf_eq hd
  subst hds
  have hlv : vs'.length = len * n := by
    have : ∀ {place : Nat → Option (Nat × Nat)} {l l' : List AV} {ps : List (Nat × Operand)}, Fills S place l ps l' → l'.length = l.length := by
      intro place l l' ps hf
      induction hf with
      | nil => rfl
      | cons e hu hp ho h ih => rw [ih, spliceL_length ho]
    have h1 := this hf
    rw [← hv'.len, h1]
    simp [vals]
  have hdl : dl.length = len * n := by have := hv'.len; simp at this; omega
  have hrl := colsFrom_rows hdl hv'
  have hzc : z.cells = zs.toArray := by rw [← hzs, Array.toArray_toList]
  have hmap : (parts.map fun x => (x.1, ρ x.2)).toList = parts.toList.map fun p => (p.1, ρ p.2) := by simp
  refine ⟨w.alloc (.cells vs'.toArray e), .slice (some ⟨w.heap.size, 0, none⟩) len len, some len, ?_, WStep.alloc w _, ?_, ?_⟩
  · have hbig : ¬ (len * n > 2 ^ 24) := by omega
    have hfl' : Instr.fill (fun i => some (i * n, n)) ((Array.range (len * n)).map fun i => z.cells[i % z.cells.size]!) ((parts.map fun x => (x.1, ρ x.2)).toList) = some vs'.toArray := by
      rw [hmap, hzc, zeros_arr zs _ (by omega), hzn]; exact hfl
    have hb : (Instr.buildSlice t len (parts.map fun x => (x.1, ρ x.2))).run P w = .ok (.slice (some ⟨w.heap.size, 0, none⟩) len len) (w.alloc (.cells vs'.toArray e)) := by
      unfold Instr.buildSlice
      simp only [Sem.run_bind, run_underlying hu, Result.andThen, hsz, hbig, if_false]
      refine zeros_run (P := P) (hr w) ?_ fun h0 => ?_
      · rw [hfl']; simp [newRow]
      · have e0 : ((Array.range (len * n)).map fun x => (#[] : Array Value)[x % (#[] : Array Value).size]!) = (Array.range (len * n)).map fun i => z.cells[i % z.cells.size]! := by rw [h0]; simp
        rw [e0, hfl']; simp [newRow]
    simp only [execOp, Sem.run_bind, hb, Result.andThen]
    rfl
  · refine ⟨hrl.1, hrl.2.1, ?_⟩
    rw [Vals.set_κ]
    refine ⟨Nat.le_refl _, vs'.toArray, e, by rw [Vals.set_ρ, heap_alloc], by simp [hlv], ?_⟩
    have := hrl.at (vs := [])
    simpa using this
  · have := Den.own (V := V.set lb w.heap.size (some len)) (M := M) lb len len (by rw [Vals.set_κ]) (Nat.le_refl _)
    rw [Vals.set_ρ] at this
    exact this

/-! make([]T, len, cap). -/
def repCols (len : Nat) (zs : List Value) : List Col := zs.map fun z => match z with
  | .int k m => .ints k (List.replicate len m)
  | .bool b => .bools (List.replicate len b)
  | u => .ds (List.replicate len (.v u))
theorem repCols_rows {M : Mem} {len cap : Nat} {zs : List Value} (hle : len ≤ cap) : rowsAt M zs.length len (repCols len zs) ((List.range (cap * zs.length)).map fun k => zs.getD (k % zs.length) undef).toArray := by
  refine ⟨by simp [repCols], fun c hc => ?_, fun i j c hi hc => ?_⟩
  · obtain ⟨z, _, rfl⟩ := List.mem_map.1 hc
    cases z <;> simp [Col.len]
  · simp only [repCols, List.getElem?_map, Option.map_eq_some_iff] at hc
    obtain ⟨z, hz, rfl⟩ := hc
    have hj : j < zs.length := (List.getElem?_eq_some_iff.1 hz).1
    have : (i + 1) * zs.length ≤ cap * zs.length := Nat.mul_le_mul_right _ (by omega)
    rw [Nat.add_mul, Nat.one_mul] at this
    have e2 : (i * zs.length + j) % zs.length = j := by rw [Nat.mul_comm, Nat.mul_add_mod]; exact Nat.mod_eq_of_lt hj
    refine ⟨z, ?_, ?_⟩
    · rw [List.getElem?_toArray, List.getElem?_map, List.getElem?_range (by omega)]
      simp [e2, List.getD_eq_getElem?_getD, hz]
    · cases z <;> simp [Col.at, hi, List.getD_eq_getElem?_getD] <;> exact .v _
theorem Trace.makeSlice {S' : St} {r : List Oper} {L : List Ax} {zs : List Value} {n bytes : Nat} {k k' : IntKind} {len cap : Int} {cs : List Col} (lb : Nat) (ds : List Nat)
    (ht : sliceOf P t e n = true) (hb : (P.info? e).map (·.bytes) = some bytes) (hz : ZeroIs P e zs) (hzn : zs.length = n) (hn : 0 < n) (e1 : Ev S true x (iv k len)) (e2 : Ev S true y (iv k' cap)) (h0 : 0 ≤ len ∧ len ≤ cap) (h1 : bytes * cap ≤ 281474976710656) (h2 : cap ≤ 281474976710656)
    (hcs : repCols len.toNat zs = cs)
    (hfr : freshB ⟨opNames ⟨some d, .makeSlice t x y, ty, pos, af, none⟩, S, postOf ds lb (.app n len.toNat cs) d (.own lb len.toNat), [lb]⟩ S = true) (h : Trace P ro ops r (S.after ds lb (.app n len.toNat cs) d (.own lb len.toNat)) L S') :
    Trace P ro ops (⟨some d, .makeSlice t x y, ty, pos, af, none⟩ :: r) S (⟨opNames ⟨some d, .makeSlice t x y, ty, pos, af, none⟩ ++ ([] : List Nat).map bk, S, postOf ds lb (.app n len.toNat cs) d (.own lb len.toNat), [lb]⟩ :: L) S' := by
  subst hcs
  subst hzn
  refine Trace.new ds (axOp_new rfl rfl (fun _ h => nomatch h) fun E V M a w h => ?_) (by simpa using hfr) h
  have hx := h.val (by simp [Op.operands]) e1
  have hy := h.val (by simp [Op.operands]) e2
  generalize a.eval = ρ at *
  obtain ⟨z, hzs, hr⟩ := zeroIs_run hz
  obtain ⟨hu, hsz⟩ := sliceOf_of ht
  have hzc : z.cells = zs.toArray := by rw [← hzs, Array.toArray_toList]
  obtain ⟨inf, hi, hib⟩ : ∃ inf, P.info? e = some inf ∧ inf.bytes = bytes := by
    cases hi : P.info? e with
    | none => rw [hi] at hb; cases hb
    | some inf => rw [hi] at hb; exact ⟨inf, rfl, by simpa using hb⟩
  have hlc : len.toNat ≤ cap.toNat := by omega
  refine ⟨w.alloc (.cells ((List.range (cap.toNat * zs.length)).map fun k => zs.getD (k % zs.length) undef).toArray e), .slice (some ⟨w.heap.size, 0, none⟩) len.toNat cap.toNat, some cap.toNat, ?_, WStep.alloc w _, ?_, ?_⟩
  · have hw1 : IntKind.i64.wrap len = len := IntKind.wrap_in .i64 len (by simp [IntKind.min, IntKind.max, IntKind.signed, IntKind.bits]; omega)
    have hw2 : IntKind.i64.wrap cap = cap := IntKind.wrap_in .i64 cap (by simp [IntKind.min, IntKind.max, IntKind.signed, IntKind.bits]; omega)
    have hti : (typeInfo e).run P w = .ok inf w := run_typeInfo _ hi
    have hbig : ((decide (cap < 0) || decide ((inf.bytes : Int) * cap > 2 ^ 48)) || decide (len < 0) || decide (len > cap)) = false := by
      simp only [Bool.or_eq_false_iff, decide_eq_false_iff_not]
      rw [hib]
      refine ⟨⟨⟨by omega, ?_⟩, by omega⟩, by omega⟩
      have : (2 : Int) ^ 48 = 281474976710656 := by decide
      omega
    have hroom : ∀ m w', (askRoom m).run P w' = .ok () w' := fun m w' => by unfold askRoom; split <;> rfl
    have hb : (Instr.makeSlice t (.int k len) (.int k' cap)).run P w = .ok (.slice (some ⟨w.heap.size, 0, none⟩) len.toNat cap.toNat) (w.alloc (.cells ((List.range (cap.toNat * zs.length)).map fun k => zs.getD (k % zs.length) undef).toArray e)) := by
      unfold Instr.makeSlice
      simp only [Sem.run_bind, run_underlying hu, Result.andThen, asInt, asIntOf, Sem.run_pure, hti, hw1, hw2, hbig, Bool.false_eq_true, if_false, hroom, hsz]
      refine zeros_run (P := P) (hr w) ?_ fun h0 => ?_
      · rw [hzc, zeros_arr zs _ hn]; simp [newRow]
      · have e0 : ((Array.range (cap.toNat * zs.length)).map fun x => (#[] : Array Value)[x % (#[] : Array Value).size]!) = (Array.range (cap.toNat * zs.length)).map fun k => zs.toArray[k % zs.toArray.size]! := by rw [h0]; simp
        rw [e0, zeros_arr zs _ hn]; simp [newRow]
    simp only [execOp, hx, hy, Sem.run_bind, hb, Result.andThen]
    rfl
  · refine ⟨by simp [repCols], (repCols_rows (M := M) hlc).2.1, ?_⟩
    rw [Vals.set_κ]
    exact ⟨hlc, _, e, by rw [Vals.set_ρ, heap_alloc], by simp, repCols_rows hlc⟩
  · have := Den.own (V := V.set lb w.heap.size (some cap.toNat)) (M := M) lb len.toNat cap.toNat (by rw [Vals.set_κ]) hlc
    rw [Vals.set_ρ] at this
    exact this

/-! Cuts. -/
inductive Bound (S : St) (c : Bool) : Option Operand → Nat → Nat → Prop
  | no (d : Nat) : Bound S c none d d
  | to {x : Operand} {k : IntKind} {m : Int} (d : Nat) (e : Ev S c x (iv k m)) (h : c = true → 0 ≤ m) : Bound S c (some x) d m.toNat
theorem bound_run {E : Env} {V : Vals} {M : Mem} {a : Act} {w : World} {o : Oper} {bl : List Nat} {c : Bool} {x : Option Operand} {dd m : Nat} (hg : Given E S o bl c V M a w) (hc : c = true) (hx : ∀ y, x = some y → y ∈ o.op.operands) (h : Bound S c x dd m) :
    (x.map a.eval = none ∧ m = dd) ∨ ∃ k, x.map a.eval = some (.int k m) := by
  cases h with
  | no => exact .inl ⟨rfl, rfl⟩
  | @to x k mm _ e h0 =>
    right
    have hv := hg.val (hx _ rfl) e
    have hm := h0 hc
    refine ⟨k, ?_⟩
    rw [Option.map_some, hv, Int.toNat_of_nonneg hm]
theorem slice_ops {o : Oper} {lo hi : Option Operand} (ho : o.op = .slice t x lo hi none) : x ∈ o.op.operands ∧ (∀ y, lo = some y → y ∈ o.op.operands) ∧ ∀ y, hi = some y → y ∈ o.op.operands := by
  rw [ho]
  refine ⟨by simp [Op.operands], fun y h => by subst h; simp [Op.operands], fun y h => by subst h; simp [Op.operands]⟩
/-- x[lo:hi] of immutable rows. -/
theorem Pure.cutRows {c : Bool} {dt : Option Tmp} {gd : Option (Nat × Bool)} {n len l h : Nat} {g : Nat → List D} {lo hi : Option Operand} (ht : sliceOf P t e n = true) (e1 : Ev S c x (.d (.rows n len g))) (hlo : Bound S c lo 0 l) (hhi : Bound S c hi len h) (hle : c = true → l ≤ h ∧ h ≤ len) :
    Pure P S [] ⟨dt, .slice t x lo hi none, ty, pos, af, gd⟩ c (.d (.rows n (h - l) fun i => g (l + i))) := by
  refine ⟨(fun _ h => nomatch h), fun E V M a w hg hc => ?_⟩
  obtain ⟨h1, h2⟩ := hle hc
  obtain ⟨ox, olo, ohi⟩ := slice_ops (t := t) (x := x) (lo := lo) (hi := hi) (o := ⟨dt, .slice t x lo hi none, ty, pos, af, gd⟩) rfl
  have hx := hg.opd x ox _ e1
  have rlo := bound_run hg hc olo hlo
  have rhi := bound_run hg hc ohi hhi
  obtain ⟨hu, hsz⟩ := sliceOf_of ht
  generalize hex : a.eval x = v at hx
  generalize a.eval = ρ at *
  cases hx with
  | d _ _ hx =>
    cases hx with
    | emp _ _ ad cap =>
      refine ⟨.slice (if cap = l then ad else ad.map (·.add (l * n))) (h - l) (cap - l), ?_, ?_⟩
      · simp only [execOp, hex, Option.map_none, Sem.run_bind, run_slice (cap := cap) hu hsz rlo rhi h1 (by omega), Result.andThen]; rfl
      · have : h - l = 0 := by omega
        rw [this]
        exact .d _ _ (.emp _ _ _ _)
    | rows _ _ _ b o cap hc' hl f hm hd =>
      refine ⟨.slice (if cap = l then some ⟨b, o, none⟩ else (some (⟨b, o, none⟩ : Addr)).map (·.add (l * n))) (h - l) (cap - l), ?_, ?_⟩
      · simp only [execOp, hex, Option.map_none, Sem.run_bind, run_slice (cap := cap) hu hsz rlo rhi h1 (by omega), Result.andThen]; rfl
      · by_cases h0 : h - l = 0
        · rw [h0]; exact .d _ _ (.emp _ _ _ _)
        · rw [if_neg (by omega), Option.map_some, addr_add]
          refine .d _ _ (.rows _ _ _ b (o + l * n) (cap - l) (by omega) (fun i hi => hl _ (by omega)) (fun i j => f (l + i) j) (fun i j hi hj => ?_) (fun i j x hi hx => hd _ j x (by omega) hx))
          have := hm (l + i) j (by omega) hj
          rw [Nat.add_mul] at this
          rw [← this]
          congr 1
          omega
/-- x[lo:hi] of a slice that the function owns. -/
theorem Pure.cutOwn {c : Bool} {dt : Option Tmp} {gd : Option (Nat × Bool)} {n len l h lb : Nat} {lo hi : Option Operand} (ht : sliceOf P t e n = true) (e1 : Ev S c x (.own lb len)) (hlo : Bound S c lo 0 l) (hhi : Bound S c hi len h) (hle : c = true → l ≤ h ∧ h ≤ len) :
    Pure P S [] ⟨dt, .slice t x lo hi none, ty, pos, af, gd⟩ c (.sl lb n l (h - l)) := by
  refine ⟨(fun _ h => nomatch h), fun E V M a w hg hc => ?_⟩
  obtain ⟨h1, h2⟩ := hle hc
  obtain ⟨ox, olo, ohi⟩ := slice_ops (t := t) (x := x) (lo := lo) (hi := hi) (o := ⟨dt, .slice t x lo hi none, ty, pos, af, gd⟩) rfl
  have hx := hg.opd x ox _ e1
  have rlo := bound_run hg hc olo hlo
  have rhi := bound_run hg hc ohi hhi
  obtain ⟨hu, hsz⟩ := sliceOf_of ht
  generalize hex : a.eval x = v at hx
  generalize a.eval = ρ at *
  cases hx with
  | ownNil =>
    refine ⟨.slice (if 0 = l then none else (none : Option Addr).map (·.add (l * n))) (h - l) (0 - l), ?_, ?_⟩
    · simp only [execOp, hex, Option.map_none, Sem.run_bind, run_slice (cap := 0) hu hsz rlo rhi h1 (by omega), Result.andThen]; rfl
    · have : h - l = 0 := by omega
      rw [this]
      exact .slEmp _ _ _ _ _
  | own _ _ cap hk hcap =>
    refine ⟨.slice (if cap = l then some ⟨V.ρ lb, 0, none⟩ else (some (⟨V.ρ lb, 0, none⟩ : Addr)).map (·.add (l * n))) (h - l) (cap - l), ?_, ?_⟩
    · simp only [execOp, hex, Option.map_none, Sem.run_bind, run_slice (cap := cap) hu hsz rlo rhi h1 (by omega), Result.andThen]; rfl
    · by_cases h0 : h - l = 0
      · rw [h0]; exact .slEmp _ _ _ _ _
      · rw [if_neg (by omega), Option.map_some, addr_add, Nat.zero_add]
        exact .sl lb n l (h - l) (cap - l) (by omega) (by rw [hk]; congr 1; omega)
/-- x[lo:hi] of a cut. -/
theorem Pure.cutSl {c : Bool} {dt : Option Tmp} {gd : Option (Nat × Bool)} {n len l h lb l0 : Nat} {lo hi : Option Operand} (ht : sliceOf P t e n = true) (e1 : Ev S c x (.sl lb n l0 len)) (hlo : Bound S c lo 0 l) (hhi : Bound S c hi len h) (hle : c = true → l ≤ h ∧ h ≤ len) :
    Pure P S [] ⟨dt, .slice t x lo hi none, ty, pos, af, gd⟩ c (.sl lb n (l0 + l) (h - l)) := by
  refine ⟨(fun _ h => nomatch h), fun E V M a w hg hc => ?_⟩
  obtain ⟨h1, h2⟩ := hle hc
  obtain ⟨ox, olo, ohi⟩ := slice_ops (t := t) (x := x) (lo := lo) (hi := hi) (o := ⟨dt, .slice t x lo hi none, ty, pos, af, gd⟩) rfl
  have hx := hg.opd x ox _ e1
  have rlo := bound_run hg hc olo hlo
  have rhi := bound_run hg hc ohi hhi
  obtain ⟨hu, hsz⟩ := sliceOf_of ht
  generalize hex : a.eval x = v at hx
  generalize a.eval = ρ at *
  cases hx with
  | slEmp _ _ _ ad cap =>
    refine ⟨.slice (if cap = l then ad else ad.map (·.add (l * n))) (h - l) (cap - l), ?_, ?_⟩
    · simp only [execOp, hex, Option.map_none, Sem.run_bind, run_slice (cap := cap) hu hsz rlo rhi h1 (by omega), Result.andThen]; rfl
    · have : h - l = 0 := by omega
      rw [this]
      exact .slEmp _ _ _ _ _
  | sl _ _ _ _ cap hcap hk =>
    refine ⟨.slice (if cap = l then some ⟨V.ρ lb, l0 * n, none⟩ else (some (⟨V.ρ lb, l0 * n, none⟩ : Addr)).map (·.add (l * n))) (h - l) (cap - l), ?_, ?_⟩
    · simp only [execOp, hex, Option.map_none, Sem.run_bind, run_slice (cap := cap) hu hsz rlo rhi h1 (by omega), Result.andThen]; rfl
    · by_cases h0 : h - l = 0
      · rw [h0]; exact .slEmp _ _ _ _ _
      · rw [if_neg (by omega), Option.map_some, addr_add, ← Nat.add_mul]
        exact .sl lb n (l0 + l) (h - l) (cap - l) (by omega) (by rw [hk]; congr 1; omega)
end

end Go.Proofs.YtmdfamnnnoieaaaDoor

/- Turns of a state that no operation makes. No program in sight. -/
namespace Go.Proofs.YtmdfamnnnoieaaaDoor
open Go
set_option linter.unusedVariables false
set_option linter.unusedSimpArgs false
variable {P : Program} {S : St} {ro : Ro} {ops : Array Oper} {E : Env}

theorem St.le_nil (S : St) : St.le [] S := fun n c h => by simp [St.get] at h
theorem St.le_cons {S r : St} {n : Nat} {c : Cont} (h : S.get n = some c) (t : St.le r S) : St.le ((n, c) :: r) S := fun m d e => by
  simp only [St.get, nbeq] at e
  by_cases hm : n = m
  · subst hm; simp at e; subst e; exact h
  · simp [hm] at e; exact t m d e

def Ghost (E : Env) (S T : St) : Prop := ∀ a w, Rep E S a w → Rep E T a w
theorem WPA.ghost {c : Code} {S T : St} {Q : Exit → St → Prop} (g : Ghost E S T) (h : WPA P ro E c T Q) : WPA P ro E c S Q := fun a w ⟨ms, h0, h1, h2, h3⟩ => h a w ⟨ms, h0, h1, h2, g _ w h3⟩
theorem Ghost.trans {S T U : St} (g : Ghost E S T) (h : Ghost E T U) : Ghost E S U := fun a w hr => h a w (g a w hr)
theorem Ghost.weaken {S T : St} (h : T.le S) : Ghost E S T := fun a w hr => hr.weaken h

/-- A nil slice as one that the function owns. -/
theorem Ghost.ownNil {t l n : Nat} {cs : List Col} (hs : S.get (sl t) = some (.av nilS)) (hf : ∀ m c, S.get m = some c → m ≠ bk l → ¬ CMent c l) (hk : l ∉ E.keep) (ht : t < E.nt) (hn : cs.length = n) (hc : ∀ c ∈ cs, c.len = 0) :
    Ghost E S (S.upd [(bk l, some (.blk (.app n 0 cs))), (sl t, some (.av (.own l 0)))]) := by
  rintro a w ⟨V, M, ha, hw⟩
  obtain ⟨v, hv, hd⟩ := ha.slots t _ hs
  have hvv : v = .slice none 0 0 := den_v hd
  have hput : a.put (some t) (.slice none 0 0) = a := by
    have ht' : t < a.tmps.size := by rw [ha.size]; exact ht
    have : a.tmps.setIfInBounds t (.slice none 0 0) = a.tmps := by
      apply Array.ext_getElem?
      intro i
      rw [Array.getElem?_setIfInBounds]
      split
      · rename_i h; subst h; rw [hv, hvv]
      · rfl
    simp only [Act.put, this]
  have h := rep_nil (ds := []) (l' := l) (B := .app n 0 cs) (d := t) (x := .own l 0) (v := .slice none 0 0) ha hw (fun m c hm hp => ?_) hk ht ⟨hn, hc, by simp⟩ (.ownNil l (by simp))
  · rw [hput] at h; exact h
  · rw [names_postOf] at hp
    exact hf m c hm (fun e => hp (.inr (.inl e)))

/-- The rows of a block, as immutable data. -/
def rowsD (n len : Nat) (cs : List Col) : D := .rows n len fun i => cs.map (Col.at · i)

theorem denD_new {M : Mem} {n len cap b : Nat} {cs : List Col} {vs : Array Value} {M' : Mem} (hle : M.le M') (hr : rowsAt M n len cs vs) (hcap : len ≤ cap) (hM : ∀ k u, vs[k]? = some u → M' b k = some u) : DenD M' (rowsD n len cs) (.slice (some ⟨b, 0, none⟩) len cap) := by
  obtain ⟨h1, h2, h3⟩ := hr
  refine .rows n len _ b 0 cap hcap (fun i hi => by simp [h1]) (fun i j => (vs[i * n + j]?).getD undef) (fun i j hi hj => ?_) (fun i j x hi hx => ?_)
  · obtain ⟨v, hv, _⟩ := h3 i j cs[j] hi (List.getElem?_eq_getElem (by omega))
    rw [Nat.zero_add, hM _ _ hv, hv]; rfl
  · simp only [List.getElem?_map, Option.map_eq_some_iff] at hx
    obtain ⟨c, hc, rfl⟩ := hx
    obtain ⟨v, hv, hd⟩ := h3 i j c hi hc
    rw [hv]
    exact hd.mono hle

theorem BlkAt.memMono {V : Vals} {M M' : Mem} {w : World} {l : Nat} {B : Blk} (h : BlkAt V M w l B) (hle : M.le M') : BlkAt V M' w l B := by
  have hr : ∀ {n len : Nat} {cs : List Col} {vs : Array Value}, rowsAt M n len cs vs → rowsAt M' n len cs vs := fun ⟨a, b, c⟩ => ⟨a, b, fun i j k hi hk => let ⟨v, hv, hd⟩ := c i j k hi hk; ⟨v, hv, hd.mono hle⟩⟩
  cases B with
  | cells cs => obtain ⟨a1, vs, t, a2, a3, a4⟩ := h; exact ⟨a1, vs, t, a2, a3, fun j x y hx hy => (a4 j x y hx hy).mono hle fun _ _ => ⟨rfl, rfl⟩⟩
  | data ds => obtain ⟨a1, vs, t, a2, a3, a4⟩ := h; exact ⟨a1, vs, t, a2, a3, fun j x y hx hy => (a4 j x y hx hy).mono hle fun _ _ => ⟨rfl, rfl⟩⟩
  | cols n len cs => obtain ⟨a1, vs, t, a2, a3, a4⟩ := h; exact ⟨a1, vs, t, a2, a3, hr a4⟩
  | app n len cs =>
    obtain ⟨a1, a2, a3⟩ := h
    refine ⟨a1, a2, ?_⟩
    split
    · rename_i hk; rw [hk] at a3; exact a3
    · rename_i cap hk
      rw [hk] at a3
      obtain ⟨b1, vs, t, b2, b3, b4⟩ := a3
      exact ⟨b1, vs, t, b2, b3, hr b4⟩
  | lp h' ts => exact lpAt.turn h hle ⟨rfl, rfl⟩ (fun _ _ => ⟨rfl, rfl⟩) (fun _ => rfl)
  | appv cs => exact appvAt.turn h hle ⟨rfl, rfl⟩ (fun _ _ => ⟨rfl, rfl⟩) (fun _ => rfl)
  | keys ks => exact h

/-- A slice that the function owns becomes immutable data. -/
theorem Ghost.freeze {t l n len : Nat} {cs : List Col} (hs : S.get (sl t) = some (.av (.own l len))) (hb : S.get (bk l) = some (.blk (.app n len cs))) :
    Ghost E S (S.upd [(bk l, none), (sl t, some (.av (.d (rowsD n len cs))))]) := by
  rintro a w ⟨V, M, ha, hw⟩
  obtain ⟨v, hv, hd⟩ := ha.slots t _ hs
  have hget : ∀ m, (S.upd [(bk l, none), (sl t, some (.av (.d (rowsD n len cs))))]).get m = if sl t = m then some (.av (.d (rowsD n len cs))) else if bk l = m then none else S.get m := fun m => by rw [St.get_upd]; rfl
  have hgb : ∀ m B, (S.upd [(bk l, none), (sl t, some (.av (.d (rowsD n len cs))))]).get (bk m) = some (.blk B) → m ≠ l ∧ S.get (bk m) = some (.blk B) := by
    intro m B h
    rw [hget, if_neg (sl_ne_bk t m)] at h
    by_cases hm : bk l = bk m
    · rw [if_pos hm] at h; cases h
    · rw [if_neg hm] at h; exact ⟨fun e => hm (by rw [e]), h⟩
  have hblk := hw.blks l _ hb
  obtain ⟨b1, b2, b3⟩ := hblk
  -- the new memory
  obtain ⟨M', hle, hM', hden⟩ : ∃ M' : Mem, M.le M' ∧ (∀ b o u, M' b o = some u → M b o = some u ∨ (b = V.ρ l ∧ V.κ l ≠ none ∧ w.cell? ⟨b, o, none⟩ = some u)) ∧ Den V M' (.d (rowsD n len cs)) v := by
    cases hd with
    | ownNil _ hk =>
      exact ⟨M, Mem.le_refl M, fun b o u h => .inl h, .d _ _ (.emp _ _ _ _)⟩
    | own _ _ cap hk hc =>
      rw [hk] at b3
      obtain ⟨_, vs, tt, hh, hsz, hr⟩ := b3
      have hM0 : ∀ o, M (V.ρ l) o = none := hw.sep l ⟨⟨_, hb⟩, by rw [hk]; simp⟩
      refine ⟨fun b o => if b = V.ρ l then vs[o]? else M b o, fun b o u h => ?_, fun b o u h => ?_, .d _ _ (denD_new (M := M) ?_ hr hc fun k u h => by simpa using h)⟩
      · by_cases e : b = V.ρ l
        · subst e; rw [hM0 o] at h; cases h
        · simp only [if_neg e]; exact h
      · by_cases e : b = V.ρ l
        · subst e
          simp only [if_true] at h
          right
          exact ⟨rfl, by rw [hk]; simp, by simp [World.cell?, hh, h]⟩
        · simp only [if_neg e] at h; exact .inl h
      · intro b o u h
        by_cases e : b = V.ρ l
        · subst e; rw [hM0 o] at h; cases h
        · simp only [if_neg e]; exact h
  refine ⟨V, M', ⟨fun s x hx => ?_, ha.size, ha.defers⟩, ?_⟩
  · rw [hget] at hx
    by_cases hst : sl t = sl s
    · rw [if_pos hst] at hx
      injection hx with hx; injection hx with hx; subst hx
      rw [← sl_inj hst]
      exact ⟨v, hv, hden⟩
    · rw [if_neg hst, if_neg (Ne.symm (sl_ne_bk s l))] at hx
      obtain ⟨u, hu, hdu⟩ := ha.slots s x hx
      exact ⟨u, hu, hdu.mono hle fun _ _ => ⟨rfl, rfl⟩⟩
  · have hh : ∀ m, HasB V (S.upd [(bk l, none), (sl t, some (.av (.d (rowsD n len cs))))]) m → m ≠ l ∧ HasB V S m := fun m ⟨⟨B, e⟩, k⟩ => ⟨(hgb m B e).1, ⟨B, (hgb m B e).2⟩, k⟩
    have hne : ∀ m, HasB V S m → m ≠ l → V.κ l ≠ none → V.ρ m ≠ V.ρ l := fun m hm hml hk => hw.inj m l hm ⟨⟨_, hb⟩, hk⟩ hml
    exact { blks := fun m B e => (hw.blks m B (hgb m B e).2).memMono hle
            inj := fun m k hm hk' => hw.inj m k (hh m hm).2 (hh k hk').2
            sep := fun m hm o => by
              obtain ⟨h1, h2⟩ := hh m hm
              cases hc : M' (V.ρ m) o with
              | none => rfl
              | some u =>
                rcases hM' _ _ _ hc with h | ⟨h, hk, _⟩
                · rw [hw.sep m h2 o] at h; cases h
                · exact absurd h (hne m h2 h1 hk)
            fresh := fun m hm => hw.fresh m (hh m hm).2
            bd := fun m hm => hw.bd m (hh m hm).2
            mem := fun b o u h => by
              rcases hM' b o u h with h | ⟨_, _, h⟩
              · exact hw.mem b o u h
              · exact h
            mle := Mem.le_trans hw.mle hle, glb := hw.glb
            mnew := fun b o h => by
              cases hc : M' b o with
              | none => exact absurd hc h
              | some u =>
                rcases hM' b o u hc with h | ⟨h, hk, _⟩
                · exact hw.mnew b o (by rw [h]; simp)
                · rw [h]
                  rcases hw.fresh l ⟨⟨_, hb⟩, hk⟩ with h | h
                  · exact .inr (.inl h)
                  · exact .inr (.inr h)
            keep := hw.keep, frame := hw.frame }

/-- One block's shape, read otherwise. -/
theorem Ghost.reblk {l : Nat} {B B' : Blk} (hb : S.get (bk l) = some (.blk B)) (h : ∀ V M w, BlkAt V M w l B → BlkAt V M w l B') : Ghost E S (S.upd [(bk l, some (.blk B'))]) := by
  rintro a w ⟨V, M, ha, hw⟩
  refine ⟨V, M, repA_blk ha l B', ?_⟩
  have hg : ∀ m C, (S.upd [(bk l, some (.blk B'))]).get (bk m) = some (.blk C) → (m = l ∧ C = B') ∨ S.get (bk m) = some (.blk C) := fun m C e => by
    rw [upd_one] at e
    by_cases hm : bk l = bk m
    · rw [if_pos hm] at e; injection e with e; injection e with e; left; exact ⟨by unfold bk at hm; omega, e.symm⟩
    · rw [if_neg hm] at e; exact .inr e
  have hh : ∀ m, HasB V (S.upd [(bk l, some (.blk B'))]) m → HasB V S m := fun m ⟨⟨C, e⟩, k⟩ => by
    rcases hg m C e with ⟨rfl, _⟩ | e
    · exact ⟨⟨B, hb⟩, k⟩
    · exact ⟨⟨C, e⟩, k⟩
  exact { blks := fun m C e => by
            rcases hg m C e with ⟨rfl, rfl⟩ | e
            · exact h V M w (hw.blks _ _ hb)
            · exact hw.blks m C e
          inj := fun m k a b => hw.inj m k (hh m a) (hh k b), sep := fun m a => hw.sep m (hh m a), fresh := fun m a => hw.fresh m (hh m a), bd := fun m a => hw.bd m (hh m a), mem := hw.mem, mle := hw.mle, glb := hw.glb, mnew := hw.mnew, keep := hw.keep, frame := hw.frame }
/-- Cells of plain data as the one column of an array. -/
theorem Ghost.toCols {l : Nat} {ds : List D} {col : Col} (hb : S.get (bk l) = some (.blk (.cells (ds.map .d)))) (hc : colOf ds = col) : Ghost E S (S.upd [(bk l, some (.blk (.cols 1 ds.length [col])))]) := by
  refine Ghost.reblk hb fun V M w ⟨hk, vs, t, hh, hs, hd⟩ => ⟨hk, vs, t, hh, by simpa using hs, rfl, fun c h => ?_, fun i j c hi hj => ?_⟩
  · simp at h; subst h; rw [← hc]; exact (colOf_spec ds).1
  · cases j with
    | zero =>
      simp at hj; subst hj
      have hi' : i < vs.size := by simp at hs; omega
      refine ⟨vs[i], by simp [hi'], ?_⟩
      rw [← hc, (colOf_spec ds).2 i hi, List.getD_eq_getElem?_getD, List.getElem?_eq_getElem hi]
      have := hd i (.d ds[i]) vs[i] (by simp [hi]) (Array.getElem?_eq_getElem hi')
      cases this with | d _ _ h => exact h
    | succ j => simp at hj

theorem Ghost.ownNil' {t l n : Nat} {cs : List Col} (hs : S.get (sl t) = some (.av nilS)) (hf : freshB ⟨[], S, [(bk l, none)], [l]⟩ S = true) (hk : l ∉ E.keep) (ht : t < E.nt) (hn : cs.length = n) (hc : ∀ c ∈ cs, c.len = 0) :
    Ghost E S ((sl t, .av (.own l 0)) :: (bk l, .blk (.app n 0 cs)) :: S) :=
  (Ghost.ownNil hs (fun m c hm hne => fresh_of hf l (by simp) m c hm (by simpa [Ax.names] using hne)) hk ht hn hc).trans (Ghost.weaken fun m c e => by
    rw [get_cons, get_cons] at e
    show (St.ins (sl t) _ (St.ins (bk l) _ S)).get m = _
    rw [St.get_ins, St.get_ins]; exact e)
theorem Ghost.freeze' {t l n len : Nat} {cs : List Col} (hs : S.get (sl t) = some (.av (.own l len))) (hb : S.get (bk l) = some (.blk (.app n len cs))) :
    Ghost E S ((sl t, .av (.d (rowsD n len cs))) :: St.del (bk l) S) :=
  (Ghost.freeze hs hb).trans (Ghost.weaken fun m c e => by
    rw [get_cons, St.get_del] at e
    show (St.ins (sl t) _ (St.del (bk l) S)).get m = _
    rw [St.get_ins, St.get_del]; exact e)

theorem Ghost.dataCells {l : Nat} {ds : List D} {cs : List AV} (hb : S.get (bk l) = some (.blk (.data ds))) (hc : ds.map .d = cs) : Ghost E S ((bk l, .blk (.cells cs)) :: S) := by
  subst hc
  exact (Ghost.reblk (B' := .cells (ds.map .d)) hb fun V M w h => h).trans (Ghost.weaken fun n c e => by rw [← cons_upd]; exact e)
theorem Ghost.dataCols {l : Nat} {ds : List D} {col : Col} {n : Nat} (hb : S.get (bk l) = some (.blk (.data ds))) (hn : ds.length = n) (hc : colOf ds = col) : Ghost E S ((bk l, .blk (.cols 1 n [col])) :: S) := by
  subst hn
  refine (Ghost.dataCells hb rfl).trans ((Ghost.toCols (get_cons _ _ _ _ ▸ if_pos rfl) hc).trans (Ghost.weaken fun n c e => ?_))
  rw [get_cons] at e
  rw [← cons_upd, get_cons, get_cons]
  split
  · rename_i h; rw [if_pos h] at e; exact e
  · rename_i h; rw [if_neg h] at e; exact e

end Go.Proofs.YtmdfamnnnoieaaaDoor
