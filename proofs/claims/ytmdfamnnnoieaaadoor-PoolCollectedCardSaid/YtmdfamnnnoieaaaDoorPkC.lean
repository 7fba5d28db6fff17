import Derived.Test.YtmdfamnnnoieaaaDoorPkH
import Derived.Test.YtmdfamnnnoieaaaDoorPkF
import Derived.Test.YtmdfamnnnoieaaaDoorPkT
import Derived.Lib.Bytealg
import Derived.Lib.BytesEntry
/- Operations at uint32, by words of 32 bits. No program in sight. -/
namespace Go.Proofs.YtmdfamnnnoieaaaDoor
open Go
set_option linter.unusedVariables false
set_option linter.unusedSimpArgs false

abbrev W := BitVec 32
/-- A word as a value. -/
abbrev wi (x : W) : Int := ((x.toNat : Nat) : Int)
abbrev wv (x : W) : AV := iv .u32 (wi x)
theorem wrap32 (n : Int) : IntKind.u32.wrap n = wi (BitVec.ofInt 32 n) := by
  have : IntKind.u32.wrap n = n % 4294967296 := by
    unfold IntKind.wrap
    simp [IntKind.bits, IntKind.signed]
  rw [this]
  unfold wi
  rw [BitVec.toNat_ofInt]
  omega
theorem ofInt_wi (x : W) : BitVec.ofInt 32 (wi x) = x := by
  apply BitVec.eq_of_toNat_eq
  simp [BitVec.toNat_ofInt]
theorem wrap_wi (x : W) : IntKind.u32.wrap (wi x) = wi x := by rw [wrap32, ofInt_wi]
theorem wrap_bits (x : W) : IntKind.u32.wrap ((x.toNat : Nat) : Int) = wi x := wrap_wi x
section
variable {P : Program} {S : St} {c : Bool} {x y : Operand} {t t' ty e : TypeId} {pos : String} {af : Array Edge} {gd : Option (Nat × Bool)} {d : Option Nat} {k' : IntKind}
theorem Pure.wadd {a b : W} (e1 : Ev S c x (wv a)) (e2 : Ev S c y (wv b)) : Pure P S [] ⟨d, .binOp .add t x y t', ty, pos, af, gd⟩ c (wv (a + b)) :=
  (Pure.arithW e1 e2 rfl).to (congrArg (fun n => iv .u32 n) (by
    rw [wrap32]
    refine congrArg wi (BitVec.eq_of_toNat_eq ?_)
    rw [BitVec.toNat_add, BitVec.toNat_ofInt]
    unfold wi
    omega))
theorem Pure.wand {a b : W} (e1 : Ev S c x (wv a)) (e2 : Ev S c y (wv b)) : Pure P S [] ⟨d, .binOp .and t x y t', ty, pos, af, gd⟩ c (wv (a &&& b)) :=
  (Pure.bits e1 e2 rfl).to (congrArg (fun n => iv .u32 n) (by
    show IntKind.u32.wrap (((BitVec.ofInt 32 (wi a) &&& BitVec.ofInt 32 (wi b)).toNat : Nat) : Int) = _
    rw [ofInt_wi, ofInt_wi, wrap_bits]))
theorem Pure.wor {a b : W} (e1 : Ev S c x (wv a)) (e2 : Ev S c y (wv b)) : Pure P S [] ⟨d, .binOp .or t x y t', ty, pos, af, gd⟩ c (wv (a ||| b)) :=
  (Pure.bits e1 e2 rfl).to (congrArg (fun n => iv .u32 n) (by
    show IntKind.u32.wrap (((BitVec.ofInt 32 (wi a) ||| BitVec.ofInt 32 (wi b)).toNat : Nat) : Int) = _
    rw [ofInt_wi, ofInt_wi, wrap_bits]))
theorem Pure.wxor {a b : W} (e1 : Ev S c x (wv a)) (e2 : Ev S c y (wv b)) : Pure P S [] ⟨d, .binOp .xor t x y t', ty, pos, af, gd⟩ c (wv (a ^^^ b)) :=
  (Pure.bits e1 e2 rfl).to (congrArg (fun n => iv .u32 n) (by
    show IntKind.u32.wrap (((BitVec.ofInt 32 (wi a) ^^^ BitVec.ofInt 32 (wi b)).toNat : Nat) : Int) = _
    rw [ofInt_wi, ofInt_wi, wrap_bits]))
theorem Pure.winv {a : W} (e1 : Ev S c x (wv a)) : Pure P S [] ⟨d, .unOp .xor t x, ty, pos, af, gd⟩ c (wv (~~~a)) :=
  (Pure.inv e1 rfl).to (congrArg (fun n => iv .u32 n) (by
    show IntKind.u32.wrap (((BitVec.ofInt 32 (IntKind.max .u32) ^^^ BitVec.ofInt 32 (wi a)).toNat : Nat) : Int) = _
    rw [ofInt_wi, wrap_bits]
    have : BitVec.ofInt 32 (IntKind.max .u32) = BitVec.allOnes 32 := by rfl
    rw [this, BitVec.allOnes_xor]))
theorem Pure.wshl {a : W} {n : Int} (e1 : Ev S c x (wv a)) (e2 : Ev S c y (iv k' n)) (h0 : c = true → 0 ≤ n) (h : c = true → n ≤ 32) : Pure P S [] ⟨d, .binOp .shl t x y t', ty, pos, af, gd⟩ c (wv (a <<< n.toNat)) := by
  cases c with
  | false => exact ⟨(fun _ h => nomatch h), (fun _ _ _ _ _ _ hc => nomatch hc)⟩
  | true =>
    refine (Pure.shl e1 e2 h0).to (congrArg (fun n => iv .u32 n) ?_)
    have h := h rfl
    have hm : min n.toNat IntKind.u32.bits = n.toNat := by
      show min n.toNat 32 = _
      omega
    rw [hm, wrap32]
    refine congrArg wi (BitVec.eq_of_toNat_eq ?_)
    rw [BitVec.toNat_shiftLeft, BitVec.toNat_ofInt, Nat.shiftLeft_eq]
    have : wi a * 2 ^ n.toNat = ((a.toNat * 2 ^ n.toNat : Nat) : Int) := by simp
    rw [this]
    omega
theorem Pure.wshr {a : W} {n : Int} (e1 : Ev S c x (wv a)) (e2 : Ev S c y (iv k' n)) (h0 : c = true → 0 ≤ n) (h : c = true → n ≤ 32) : Pure P S [] ⟨d, .binOp .shr t x y t', ty, pos, af, gd⟩ c (wv (a >>> n.toNat)) := by
  cases c with
  | false => exact ⟨(fun _ h => nomatch h), (fun _ _ _ _ _ _ hc => nomatch hc)⟩
  | true =>
    refine (Pure.shr e1 e2 h0).to (congrArg (fun n => iv .u32 n) ?_)
    have h := h rfl
    have hm : min n.toNat IntKind.u32.bits = n.toNat := by
      show min n.toNat 32 = _
      omega
    rw [hm]
    show (wi a).fdiv (2 ^ n.toNat) = ((a >>> n.toNat).toNat : Int)
    rw [BitVec.toNat_ushiftRight, Nat.shiftRight_eq_div_pow]
    have : (2 : Int) ^ n.toNat = ((2 ^ n.toNat : Nat) : Int) := by simp
    rw [this]
    have h0 : (0 : Int) ≤ ((2 ^ n.toNat : Nat) : Int) := Int.natCast_nonneg _
    rw [Int.fdiv_eq_ediv_of_nonneg _ h0]
    norm_cast
/-- A conversion to uint32. -/
theorem Pure.wconv {m : Int} {k : IntKind} {u : TypeDesc} (h1 : P.underlying t = some u) (h2 : P.underlying t' = some (.int .u32)) (e1 : Ev S c x (iv k m)) : Pure P S [] ⟨d, .convert t t' x, ty, pos, af, gd⟩ c (wv (BitVec.ofInt 32 m)) :=
  (Pure.conv h1 h2 e1).to (congrArg (fun n => iv .u32 n) (wrap32 m))
end

end Go.Proofs.YtmdfamnnnoieaaaDoor

/- SHA-256, as both the program and its specification reckon it. Plain Lean, no program in sight. -/
namespace Go.Proofs.YtmdfamnnnoieaaaDoor
open Go
set_option linter.unusedVariables false
set_option linter.unusedSimpArgs false

def rr (x : W) (n : Nat) : W := (x >>> n) ||| (x <<< (32 - n))
def s0 (x : W) : W := rr x 7 ^^^ rr x 18 ^^^ (x >>> 3)
def s1 (x : W) : W := rr x 17 ^^^ rr x 19 ^^^ (x >>> 10)
def b0 (x : W) : W := rr x 2 ^^^ rr x 13 ^^^ rr x 22
def b1 (x : W) : W := rr x 6 ^^^ rr x 11 ^^^ rr x 25
def ch (e f g : W) : W := (e &&& f) ^^^ (~~~e &&& g)
def maj (a b c : W) : W := (a &&& b) ^^^ (a &&& c) ^^^ (b &&& c)
theorem ch_eq (e f g : W) : g ^^^ (e &&& (f ^^^ g)) = ch e f g := by
  apply BitVec.eq_of_getLsbD_eq
  intro i hi
  simp only [ch, BitVec.getLsbD_xor, BitVec.getLsbD_and, BitVec.getLsbD_not, hi, decide_true, Bool.true_and]
  cases e.getLsbD i <;> cases f.getLsbD i <;> cases g.getLsbD i <;> rfl
theorem maj_eq (a b c : W) : (a &&& b) ||| (c &&& (a ||| b)) = maj a b c := by
  apply BitVec.eq_of_getLsbD_eq
  intro i hi
  simp only [maj, BitVec.getLsbD_xor, BitVec.getLsbD_and, BitVec.getLsbD_or]
  cases a.getLsbD i <;> cases b.getLsbD i <;> cases c.getLsbD i <;> rfl
def word4 (a b c d : Int) : W := (BitVec.ofInt 32 a <<< 24) ||| (BitVec.ofInt 32 b <<< 16) ||| (BitVec.ofInt 32 c <<< 8) ||| BitVec.ofInt 32 d
def word16 (b : List Int) : List W := (List.range 16).map fun t => word4 (b.getD (4 * t) 0) (b.getD (4 * t + 1) 0) (b.getD (4 * t + 2) 0) (b.getD (4 * t + 3) 0)
def sch (l : List W) : Nat → List W
  | 0 => l
  | n + 1 => sch l n ++ [(sch l n).getD n 0 + s0 ((sch l n).getD (n + 1) 0) + (sch l n).getD (n + 9) 0 + s1 ((sch l n).getD (n + 14) 0)]
def kk : List W := [1116352408, 1899447441, 3049323471, 3921009573, 961987163, 1508970993, 2453635748, 2870763221, 3624381080, 310598401, 607225278, 1426881987, 1925078388, 2162078206, 2614888103, 3248222580, 3835390401, 4022224774, 264347078, 604807628, 770255983, 1249150122, 1555081692, 1996064986, 2554220882, 2821834349, 2952996808, 3210313671, 3336571891, 3584528711, 113926993, 338241895, 666307205, 773529912, 1294757372, 1396182291, 1695183700, 1986661051, 2177026350, 2456956037, 2730485921, 2820302411, 3259730800, 3345764771, 3516065817, 3600352804, 4094571909, 275423344, 430227734, 506948616, 659060556, 883997877, 958139571, 1322822218, 1537002063, 1747873779, 1955562222, 2024104815, 2227730452, 2361852424, 2428436474, 2756734187, 3204031479, 3329325298]
structure V8 where
  (a b c d e f g h : W)
  deriving DecidableEq
abbrev V8.l (v : V8) : List W := [v.a, v.b, v.c, v.d, v.e, v.f, v.g, v.h]
def V8.rnd (k w : W) (v : V8) : V8 :=
  ⟨v.h + b1 v.e + ch v.e v.f v.g + k + w + (b0 v.a + maj v.a v.b v.c), v.a, v.b, v.c, v.d + (v.h + b1 v.e + ch v.e v.f v.g + k + w), v.e, v.f, v.g⟩
def V8.rnds (w : List W) (v : V8) : Nat → V8
  | 0 => v
  | n + 1 => (V8.rnds w v n).rnd (kk.getD n 0) (w.getD n 0)
def V8.plus (s v : V8) : V8 := ⟨s.a + v.a, s.b + v.b, s.c + v.c, s.d + v.d, s.e + v.e, s.f + v.f, s.g + v.g, s.h + v.h⟩
def V8.blk (s : V8) (b : List Int) : V8 := s.plus (V8.rnds (sch (word16 b) 48) s 64)
def absN (s : V8) (b : List Int) : Nat → V8
  | 0 => s
  | n + 1 => (absN s b n).blk ((b.drop (64 * n)).take 64)
def putB (len u : Nat) : List Int := (List.range len).map fun j => ((u / 2 ^ (8 * (len - 1 - j)) % 256 : Nat) : Int)
def padM (b : List Int) : List Int := b ++ 128 :: (List.replicate ((119 - b.length % 64) % 64) 0 ++ putB 8 (8 * b.length))
def outB (s : V8) : List Int := s.l.flatMap fun x => putB 4 x.toNat
def hh0 : V8 := ⟨1779033703, 3144134277, 1013904242, 2773480762, 1359893119, 2600822924, 528734635, 1541459225⟩
def sumM (b : List Int) : List Int := outB (absN hh0 (padM b) ((padM b).length / 64))
def tagM (tag b : List Int) : List Int := sumM (sumM tag ++ b)

end Go.Proofs.YtmdfamnnnoieaaaDoor

/- SHA-256: padding, the buffer of the last blocks, the bytes that come out. Plain Lean, no program in sight. -/
namespace Go.Proofs.YtmdfamnnnoieaaaDoor
open Go
set_option linter.unusedVariables false
set_option linter.unusedSimpArgs false

/-- An array of integers as cells. -/
theorem Ghost.colsData {E : Env} {S : St} {l n : Nat} {k : IntKind} {xs : List Int} (hb : S.get (bk l) = some (.blk (.cols 1 n [.ints k xs]))) : Ghost E S ((bk l, .blk (.data (xs.map fun x => .v (.int k x)))) :: S) := by
  refine (Ghost.reblk hb fun V M w h => ?_).trans (Ghost.weaken fun m c e => by rwa [← cons_upd])
  obtain ⟨hk, vs, t, hh, hs, hr⟩ := h
  rw [Nat.mul_one] at hs
  have hv := vs_ints hr hs
  have hl : xs.length = n := hr.2.1 (.ints k xs) (by simp)
  refine ⟨hk, vs, t, hh, by rw [hs]; simp [hl], fun j x y hx hy => ?_⟩
  rw [← Array.getElem?_toList, hv] at hy
  simp only [List.map_map, List.getElem?_map, Option.map_eq_some_iff, Function.comp] at hx hy
  obtain ⟨a, ha, rfl⟩ := hx
  obtain ⟨a', ha', rfl⟩ := hy
  rw [ha] at ha'
  cases ha'
  exact .d _ _ (.v _)
theorem putB_length (len u : Nat) : (putB len u).length = len := by simp [putB]
theorem padM_length (b : List Int) : (padM b).length = b.length + 9 + (119 - b.length % 64) % 64 := by
  simp [padM, putB_length]; omega
theorem padM_pre {b : List Int} {j : Nat} (h : j < b.length) : (padM b).getD j 0 = b.getD j 0 := by
  rw [List.getD_eq_getElem?_getD, List.getD_eq_getElem?_getD, padM, List.getElem?_append_left h]
theorem pad_short {b : List Int} {k : Nat} (h : 64 * k ≤ b.length) (h2 : b.length - 64 * k ≤ 55) : (padM b).length = 64 * k + 64 := by
  rw [padM_length]; omega
theorem pad_long {b : List Int} {k : Nat} (h : 64 * k ≤ b.length) (h2 : 55 < b.length - 64 * k) (h3 : b.length - 64 * k < 64) : (padM b).length = 64 * k + 128 := by
  rw [padM_length]; omega
theorem copy_eq {ys : List Int} (h : ys.length < 64) : spliceL (List.replicate 128 (0 : Int)) 0 (ys.take ys.length) = ys ++ List.replicate (128 - ys.length) 0 := by
  unfold spliceL
  rw [List.take_length, List.drop_replicate, Nat.zero_add]
  rfl
theorem mark_eq {ys : List Int} (h : ys.length < 64) : (ys ++ List.replicate (128 - ys.length) (0 : Int)).set ys.length 128 = ys ++ 128 :: List.replicate (127 - ys.length) 0 := by
  have : 128 - ys.length = (127 - ys.length) + 1 := by omega
  rw [this, List.replicate_succ]
  simp
theorem buf_eq {b : List Int} {k ln : Nat} (h : 64 * k ≤ b.length) (h2 : b.length - 64 * k < 64) (hl : (padM b).length = 64 * k + ln) (h128 : ln ≤ 128) :
    spliceL (b.drop (64 * k) ++ 128 :: List.replicate (127 - (b.drop (64 * k)).length) 0) (ln - 8) (putB 8 (8 * b.length)) = (padM b).drop (64 * k) ++ List.replicate (128 - ln) 0 := by
  rw [padM_length] at hl
  have e : (padM b).drop (64 * k) = b.drop (64 * k) ++ 128 :: (List.replicate ((119 - b.length % 64) % 64) 0 ++ putB 8 (8 * b.length)) := by
    unfold padM
    rw [List.drop_append_of_le_length h]
  rw [e]
  have hr : (b.drop (64 * k)).length = b.length - 64 * k := by simp
  generalize b.drop (64 * k) = ys at *
  unfold spliceL
  rw [putB_length]
  have h1 : (ys ++ 128 :: List.replicate (127 - ys.length) (0 : Int)).take (ln - 8) = ys ++ 128 :: List.replicate ((119 - b.length % 64) % 64) 0 := by
    rw [List.take_append, List.take_of_length_le (by omega)]
    have : ln - 8 - ys.length = ((119 - b.length % 64) % 64) + 1 := by omega
    rw [this, List.take_succ_cons, List.take_replicate]
    congr 3
    omega
  have h2' : (ys ++ 128 :: List.replicate (127 - ys.length) (0 : Int)).drop (ln - 8 + 8) = List.replicate (128 - ln) 0 := by
    rw [List.drop_append, List.drop_of_length_le (by omega)]
    have : ln - 8 + 8 - ys.length = (ln - 1 - ys.length) + 1 := by omega
    rw [this, List.drop_succ_cons, List.drop_replicate]
    simp
    omega
  rw [h1, h2']
  simp
/-- The bytes that have come out. -/
def outTo (s : V8) (i : Nat) : List Int := (s.l.take i).flatMap (fun x => putB 4 x.toNat) ++ List.replicate (32 - 4 * i) 0
theorem flat4_length (l : List W) : (l.flatMap fun x => putB 4 x.toNat).length = 4 * l.length := by
  induction l with
  | nil => rfl
  | cons x r ih => simp only [List.flatMap_cons, List.length_append, ih, putB_length, List.length_cons]; omega
theorem outTo_length {s : V8} {i : Nat} (h : i ≤ 8) : (outTo s i).length = 32 := by
  unfold outTo
  rw [List.length_append, flat4_length]
  simp
  omega
theorem outTo_step {s : V8} {i : Nat} (h : i < 8) : spliceL (outTo s i) (4 * i) (putB 4 (s.l.getD i 0).toNat) = outTo s (i + 1) := by
  have hl : s.l.length = 8 := rfl
  have hf : ((s.l.take i).flatMap fun x => putB 4 x.toNat).length = 4 * i := by rw [flat4_length, List.length_take]; omega
  have ht : s.l.take (i + 1) = s.l.take i ++ [s.l.getD i 0] := by
    rw [List.take_add_one, List.getElem?_eq_getElem (by omega), List.getD_eq_getElem?_getD, List.getElem?_eq_getElem (by omega)]
    rfl
  unfold outTo
  rw [ht, List.flatMap_append]
  unfold spliceL
  generalize (s.l.take i).flatMap (fun x => putB 4 x.toNat) = A at *
  rw [putB_length, List.take_append_of_le_length (by omega), List.take_of_length_le (by omega), List.drop_append, List.drop_of_length_le (by omega), List.drop_replicate]
  simp
  omega
theorem outTo_all (s : V8) : outTo s 8 = outB s := by
  unfold outTo outB
  simp
theorem outB_length (s : V8) : (outB s).length = 32 := by rw [← outTo_all, outTo_length (by omega)]
theorem sumM_length (b : List Int) : (sumM b).length = 32 := outB_length _
theorem tagM_length (t b : List Int) : (tagM t b).length = 32 := outB_length _

end Go.Proofs.YtmdfamnnnoieaaaDoor

/- Values of the codec, and what its functions compute of them. Plain Lean, no program in sight. -/
namespace Go.Proofs.YtmdfamnnnoieaaaDoor
open Go

inductive Val where
  | mk (k n : Int) (s : ByteArray) (l : List Val)

mutual
def Val.cells : Val → List D
  | .mk k n s l => [.v (.int .i64 k), .v (.int .i64 n), .v (.string s), .rows 4 l.length (Val.row l)]
def Val.row : List Val → Nat → List D
  | [], _ => []
  | x :: _, 0 => x.cells
  | _ :: r, i + 1 => Val.row r i
end
theorem Val.row_get : ∀ (l : List Val) (i : Nat) (x : Val), l[i]? = some x → Val.row l i = x.cells
  | [], _, _, h => by simp at h
  | y :: r, 0, x, h => by simp at h; subst h; rfl
  | y :: r, i + 1, x, h => by simp at h; exact Val.row_get r i x h
theorem Val.cells_length (v : Val) : v.cells.length = 4 := by cases v; rfl
theorem Val.row_take (l : List Val) (i : Nat) (h : i < l.length) : (Val.row l i).take 4 = (l[i]).cells := by
  rw [Val.row_get l i l[i] (List.getElem?_eq_getElem h), List.take_of_length_le (by rw [Val.cells_length]; exact Nat.le_refl _)]
theorem Val.row_length (l : List Val) (i : Nat) (h : i < l.length) : (Val.row l i).length = 4 := by
  rw [Val.row_get l i l[i] (List.getElem?_eq_getElem h), Val.cells_length]
theorem Val.cells_one (v : Val) : ∀ x ∈ v.cells, (AV.d x).oneB = true := by
  cases v with
  | mk k n s l => intro x hx; simp [Val.cells] at hx; rcases hx with rfl | rfl | rfl | rfl <;> rfl
def Val.kind : Val → Int
  | .mk k _ _ _ => k
abbrev Val.av (v : Val) : AV := .d (.agg v.cells)

/-- Lengths are those of things in memory. -/
inductive Val.Sz : Val → Prop
  | mk (k n : Int) (s : ByteArray) (l : List Val) (hk : -9223372036854775808 ≤ k ∧ k ≤ 9223372036854775807) (hn : -9223372036854775808 ≤ n ∧ n ≤ 9223372036854775807) (hs : s.size ≤ 140737488355328) (hl : l.length ≤ 140737488355328) (h : ∀ x ∈ l, Val.Sz x) : Val.Sz (.mk k n s l)

mutual
def Val.formed : Val → Bool
  | .mk k n s l => if k = 1 then decide (s = ⟨#[]⟩) && decide (l.length = 0) else if k = 2 then decide (n = 0) && decide (l.length = 0) else if k = 3 then decide (n = 0) && decide (s = ⟨#[]⟩) && Val.formeds l else false
def Val.formeds : List Val → Bool
  | [] => true
  | x :: r => x.formed && Val.formeds r
end
mutual
def Val.depth : Val → Nat
  | .mk k _ _ l => if k = 3 then 1 + Val.depths l else 0
def Val.depths : List Val → Nat
  | [] => 0
  | x :: r => max x.depth (Val.depths r)
end
theorem Val.depths_append (l m : List Val) : Val.depths (l ++ m) = max (Val.depths l) (Val.depths m) := by
  induction l with
  | nil => simp [Val.depths]
  | cons x r ih => simp only [List.cons_append, Val.depths, ih]; omega
theorem Val.formeds_append (l m : List Val) : Val.formeds (l ++ m) = (Val.formeds l && Val.formeds m) := by
  induction l with
  | nil => simp [Val.formeds]
  | cons x r ih => simp [Val.formeds, ih, Bool.and_assoc]
theorem take_succ' {α : Type} (l : List α) (k : Nat) (h : k < l.length) : l.take (k + 1) = l.take k ++ [l[k]] := by
  rw [List.take_succ_eq_append_getElem h]
theorem Val.formeds_mem {l : List Val} (h : Val.formeds l = true) : ∀ x ∈ l, x.formed = true := by
  induction l with
  | nil => intro x hx; cases hx
  | cons y r ih =>
    simp only [Val.formeds, Bool.and_eq_true] at h
    intro x hx
    rcases List.mem_cons.1 hx with rfl | hx
    · exact h.1
    · exact ih h.2 x hx
theorem Val.depth_mem {l : List Val} : ∀ x ∈ l, x.depth ≤ Val.depths l := by
  induction l with
  | nil => intro x hx; cases hx
  | cons y r ih =>
    intro x hx
    simp only [Val.depths]
    rcases List.mem_cons.1 hx with rfl | hx
    · omega
    · have := ih x hx; omega

theorem used_eq (k : Int) (A B C : Bool) : (bif (bif decide (k < 1) then true else decide (3 < k)) then true else !([false, A, B, C].getD k.toNat false)) = !((decide (k = 1) && A) || (decide (k = 2) && B) || (decide (k = 3) && C)) := by
  by_cases h1 : k < 1
  · have : ¬ k = 1 ∧ ¬ k = 2 ∧ ¬ k = 3 := by omega
    simp [h1, this]
  · by_cases h2 : 3 < k
    · have : ¬ k = 1 ∧ ¬ k = 2 ∧ ¬ k = 3 := by omega
      simp [h1, h2, this]
    · have : k = 1 ∨ k = 2 ∨ k = 3 := by omega
      rcases this with rfl | rfl | rfl <;> simp
theorem Val.formed_eq (k n : Int) (s : ByteArray) (l : List Val) : (Val.mk k n s l).formed = ((decide (k = 1) && (decide (s = ⟨#[]⟩) && decide (l.length = 0))) || (decide (k = 2) && (decide (n = 0) && decide (l.length = 0))) || (decide (k = 3) && (decide (n = 0) && decide (s = ⟨#[]⟩) && Val.formeds l))) := by
  simp only [Val.formed]
  by_cases h1 : k = 1
  · subst h1; simp
  · by_cases h2 : k = 2
    · subst h2; simp
    · by_cases h3 : k = 3
      · subst h3; simp
      · simp [h1, h2, h3]
theorem Val.depths_take (l : List Val) (i : Nat) : Val.depths (l.take i) ≤ Val.depths l := by
  have : Val.depths l = max (Val.depths (l.take i)) (Val.depths (l.drop i)) := by rw [← Val.depths_append, List.take_append_drop]
  omega

/-- The error of Check. -/
def Val.check (v : Val) : Int := if v.formed then (if 16 < v.depth then 2 else 0) else 1

end Go.Proofs.YtmdfamnnnoieaaaDoor

/- Numerals of the codec: digits to the base 128; zigzag. Plain Lean, no program in sight. -/
namespace Go.Proofs.YtmdfamnnnoieaaaDoor
open Go

def dig (u : Nat) : List Int := if h : u < 128 then [(u : Int)] else ((u % 128 + 128 : Nat) : Int) :: dig (u / 128)
termination_by u
decreasing_by omega
theorem dig_lt {u : Nat} (h : u < 128) : dig u = [(u : Int)] := by rw [dig, dif_pos h]
theorem dig_ge {u : Nat} (h : 128 ≤ u) : dig u = ((u % 128 + 128 : Nat) : Int) :: dig (u / 128) := by rw [dig, dif_neg (by omega)]
theorem dig_length (u : Nat) : ∀ k, u < 2 ^ (7 * (k + 1)) → (dig u).length ≤ k + 1 := by
  intro k
  induction k generalizing u with
  | zero => intro h; rw [dig_lt (by simpa using h)]; simp
  | succ k ih =>
    intro h
    by_cases hu : u < 128
    · rw [dig_lt hu]; simp
    · rw [dig_ge (by omega)]
      have : u / 128 < 2 ^ (7 * (k + 1)) := by
        rw [Nat.div_lt_iff_lt_mul (by decide)]
        have e : 2 ^ (7 * (k + 1 + 1)) = 2 ^ (7 * (k + 1)) * 128 := by rw [show 7 * (k + 1 + 1) = 7 * (k + 1) + 7 from by omega, Nat.pow_add]
        omega
      have := ih (u / 128) this
      simp only [List.length_cons]; omega
theorem dig_length10 {u : Nat} (h : u < 18446744073709551616) : (dig u).length ≤ 10 := dig_length u 9 (Nat.lt_of_lt_of_le h (by decide))
theorem dig_pos (u : Nat) : 0 < (dig u).length := by
  by_cases hu : u < 128
  · rw [dig_lt hu]; simp
  · rw [dig_ge (by omega)]; simp

def zig (n : Int) : Nat := if 0 ≤ n then (2 * n).toNat else (-2 * n - 1).toNat
theorem zig_lt {n : Int} (h : -9223372036854775808 ≤ n ∧ n ≤ 9223372036854775807) : zig n < 18446744073709551616 := by
  unfold zig; split <;> omega

theorem wrap_u8 (n : Int) : IntKind.u8.wrap n = n % 256 := by simp [IntKind.wrap, IntKind.bits, IntKind.signed]
theorem wrap_u64 (n : Int) : IntKind.u64.wrap n = n % 18446744073709551616 := by simp [IntKind.wrap, IntKind.bits, IntKind.signed]
theorem wrap_u64_id {n : Int} (h : 0 ≤ n ∧ n < 18446744073709551616) : IntKind.u64.wrap n = n := by rw [wrap_u64]; omega
theorem wrap_i64 (n : Int) : IntKind.i64.wrap n = if 9223372036854775808 ≤ n % 18446744073709551616 then n % 18446744073709551616 - 18446744073709551616 else n % 18446744073709551616 := by
  simp [IntKind.wrap, IntKind.bits, IntKind.signed]
theorem wrap_i64_id {n : Int} (h : -9223372036854775808 ≤ n ∧ n ≤ 9223372036854775807) : IntKind.i64.wrap n = n := by
  rw [wrap_i64]; split <;> omega

theorem or128 (u : Nat) : IntKind.u8.wrap ((BitVec.ofInt IntKind.u8.bits (IntKind.u8.wrap u) ||| BitVec.ofInt IntKind.u8.bits 128).toNat : Int) = ((u % 128 + 128 : Nat) : Int) := by
  have key : ∀ c : Fin 256, (BitVec.ofNat 8 c.val ||| 128#8).toNat = c.val % 128 + 128 := by decide +kernel
  have h := key ⟨u % 256, by omega⟩
  rw [wrap_u8, wrap_u8]
  have e : BitVec.ofInt IntKind.u8.bits ((u : Int) % 256) = BitVec.ofNat 8 (u % 256) := by
    apply BitVec.eq_of_toNat_eq
    simp [BitVec.toNat_ofInt, IntKind.bits]
    omega
  have e2 : BitVec.ofInt IntKind.u8.bits 128 = 128#8 := by rfl
  rw [e, e2]
  simp only at h
  show (((BitVec.ofNat 8 (u % 256) ||| 128#8).toNat : Nat) : Int) % 256 = _
  rw [h]
  omega
theorem byte_of (u : Nat) (h : u < 128) : IntKind.u8.wrap (u : Int) = (u : Int) := by rw [wrap_u8]; omega
theorem shr7 (u : Nat) : ((u : Int)).fdiv (2 ^ (min (7 : Int).toNat IntKind.u64.bits)) = ((u / 128 : Nat) : Int) := by
  show ((u : Int)).fdiv 128 = _
  rw [Int.fdiv_eq_ediv_of_nonneg _ (by decide)]; omega

theorem xor_ones (x : BitVec 64) : x ^^^ BitVec.allOnes 64 = ~~~ x := BitVec.xor_allOnes
/-- The unsigned form, by shifts. -/
theorem zig_shift {n : Int} (h : -9223372036854775808 ≤ n ∧ n ≤ 9223372036854775807) :
    IntKind.u64.wrap ((BitVec.ofInt IntKind.u64.bits (IntKind.u64.wrap (IntKind.u64.wrap n * 2 ^ (min (1 : Int).toNat IntKind.u64.bits))) ^^^ BitVec.ofInt IntKind.u64.bits (IntKind.u64.wrap (n.fdiv (2 ^ (min (63 : Int).toNat IntKind.i64.bits))))).toNat : Int) = (zig n : Int) := by
  have hf : n.fdiv (2 ^ (min (63 : Int).toNat IntKind.i64.bits)) = if 0 ≤ n then 0 else -1 := by
    show n.fdiv 9223372036854775808 = _
    rw [Int.fdiv_eq_ediv_of_nonneg _ (by decide)]
    split <;> omega
  rw [hf]
  have e1 : IntKind.u64.wrap n * 2 ^ (min (1 : Int).toNat IntKind.u64.bits) = IntKind.u64.wrap n * 2 := rfl
  rw [e1]
  by_cases hn : 0 ≤ n
  · rw [if_pos hn]
    have e2 : BitVec.ofInt IntKind.u64.bits (IntKind.u64.wrap 0) = 0#64 := by rw [wrap_u64]; rfl
    rw [e2]
    have e3 : ∀ x : BitVec 64, x ^^^ 0#64 = x := fun x => BitVec.xor_zero
    show IntKind.u64.wrap (((BitVec.ofInt 64 _ ^^^ 0#64 : BitVec 64)).toNat : Int) = _
    rw [e3, BitVec.toNat_ofInt]
    simp only [wrap_u64, zig, if_pos hn]
    omega
  · rw [if_neg hn]
    have e2 : BitVec.ofInt IntKind.u64.bits (IntKind.u64.wrap (-1)) = BitVec.allOnes 64 := by rw [wrap_u64]; rfl
    rw [e2]
    show IntKind.u64.wrap (((BitVec.ofInt 64 _ ^^^ BitVec.allOnes 64 : BitVec 64)).toNat : Int) = _
    rw [xor_ones, BitVec.toNat_not, BitVec.toNat_ofInt]
    simp only [wrap_u64, zig, if_neg hn]
    omega

theorem rem128 (u : Nat) : IntKind.u8.wrap (IntKind.u64.wrap (((u : Int)).tmod 128 + 128)) = ((u % 128 + 128 : Nat) : Int) := by
  rw [Int.tmod_eq_emod_of_nonneg (by omega), wrap_u8, wrap_u64]; omega
theorem quo128 (u : Nat) (h : u < 18446744073709551616) : IntKind.u64.wrap (((u : Int)).tdiv 128) = ((u / 128 : Nat) : Int) := by
  rw [Int.tdiv_eq_ediv_of_nonneg (by omega), wrap_u64]; omega

end Go.Proofs.YtmdfamnnnoieaaaDoor

/- digest: words, rotations, put; the blocks of SHA-256. -/
namespace Go.Proofs.YtmdfamnnnoieaaaDoor
open Go
set_option linter.unusedVariables false
set_option linter.unusedSimpArgs false
set_option maxRecDepth 10000

theorem rot_and {k : Nat} (h : 0 < k ∧ k < 32) : iv .u64 (IntKind.u64.wrap ((BitVec.ofInt IntKind.u64.bits (IntKind.u64.wrap (-(k : Int))) &&& BitVec.ofInt IntKind.u64.bits 31).toNat : Int)) = iv .u64 ((32 - k : Nat) : Int) := by
  have key : ∀ k : Fin 32, 0 < k.val → IntKind.u64.wrap ((BitVec.ofInt IntKind.u64.bits (IntKind.u64.wrap (-(k.val : Int))) &&& BitVec.ofInt IntKind.u64.bits 31).toNat : Int) = ((32 - k.val : Nat) : Int) := by decide +kernel
  rw [key ⟨k, h.2⟩ h.1]
theorem bdu64 {r : Int} (h : 0 ≤ r ∧ r ≤ 18446744073709551615) : IntKind.min .u64 ≤ r ∧ r ≤ IntKind.max .u64 := by
  simp [IntKind.min, IntKind.max, IntKind.signed, IntKind.bits]; omega
/-- An 8-bit column, read. -/
theorem wv_eq {x y : W} (h : x = y) : wv x = wv y := by rw [h]
/-- math/bits.RotateLeft32 -/
theorem spec65 (x : W) (k : Nat) (hk32 : 0 < k ∧ k < 32) : FnSpec Tryd.prog 65 [wv x, iv .i64 (-(k : Int))] [] (wv (rr x k)) [] [] := by
  refine fnSpec_of (rs := [.tmp 4]) Tryd.func65 rfl rfl (Nat.le_of_ble_eq_true rfl) (by simp [St.get]) fun E hk hn => ?_
  apply WPA.seq
  apply WPA.region
  · apply Trace.pu [] (.assign (.plain rfl))
    exact .nil _
  · exact keepOK_of hk hn rfl
  apply WPA.seq
  apply WPA.region
  · apply Trace.pu [] (.move (.plain rfl))
    apply Trace.pu [] (.conv Tryd.underlying3 Tryd.underlying104 (.plain rfl))
    apply Trace.pu [] ((Pure.bits (.plain rfl) (.plain rfl) rfl).to (y := iv .u64 ((32 - k : Nat) : Int)) (rot_and hk32))
    apply Trace.pu [] (.assign (.plain rfl))
    exact .nil _
  · exact keepOK_of hk hn rfl
  apply WPA.seq
  apply WPA.region
  · apply Trace.pu [] (.move (.plain rfl))
    apply Trace.pu [] (.move (.plain rfl))
    apply Trace.pu [] (.wshl (.plain rfl) (.plain rfl) (fun _ => by omega) (fun _ => by omega))
    apply Trace.pu [] (.move (.plain rfl))
    apply Trace.pu [] (.move (.plain rfl))
    apply Trace.pu [] ((Pure.arith (.plain rfl) (.plain rfl) rfl (fun _ => bdu64 (by omega))).to (y := iv .u64 (k : Int)) (congrArg (fun n => iv .u64 n) (by omega)))
    apply Trace.pu [] (.wshr (.plain rfl) (.plain rfl) (fun _ => by omega) (fun _ => by omega))
    apply Trace.pu [] (.wor (.plain rfl) (.plain rfl))
    apply Trace.pu [] (.assign (.plain rfl))
    exact .nil _
  · exact keepOK_of hk hn rfl
  apply WPA.ret
  refine ⟨.inr rfl, ⟨_, (.cons (.tmp rfl) .nil), ?_⟩, by simp [St.get]⟩
  exact wv_eq (by simp [rr, BitVec.or_comm])
/-- soundpost/digest.rotated -/
theorem spec66 (x : W) (i j k : Nat) (h1 : 0 < i ∧ i < 32) (h2 : 0 < j ∧ j < 32) (h3 : 0 < k ∧ k < 32) : FnSpec Tryd.prog 66 [wv x, iv .i64 i, iv .i64 j, iv .i64 k] [] (wv (rr x i ^^^ rr x j ^^^ rr x k)) [] [] := by
  refine fnSpec_of (rs := [.tmp 8]) Tryd.func66 rfl rfl (Nat.le_of_ble_eq_true rfl) (by simp [St.get]) fun E hk hn => ?_
  apply WPA.seq
  apply WPA.region
  · apply Trace.pu [] (.assign (.plain rfl))
    exact .nil _
  · exact keepOK_of hk hn rfl
  apply WPA.seq
  apply WPA.region
  · apply Trace.pu [] (.move (.plain rfl))
    apply Trace.pu [] (.move (.plain rfl))
    apply Trace.pu [] (.neg (.plain rfl) (fun _ => bd64 (by omega)))
    apply Trace.cu (callArgs0 (.cons (.plain rfl) (.cons (.plain rfl) .nil))) (spec65 x i h1) en65
    apply Trace.pu [] (.move (.plain rfl))
    apply Trace.pu [] (.move (.plain rfl))
    apply Trace.pu [] (.neg (.plain rfl) (fun _ => bd64 (by omega)))
    apply Trace.cu (callArgs0 (.cons (.plain rfl) (.cons (.plain rfl) .nil))) (spec65 x j h2) en65
    apply Trace.pu [] (.wxor (.plain rfl) (.plain rfl))
    apply Trace.pu [] (.move (.plain rfl))
    apply Trace.pu [] (.move (.plain rfl))
    apply Trace.pu [] (.neg (.plain rfl) (fun _ => bd64 (by omega)))
    apply Trace.cu (callArgs0 (.cons (.plain rfl) (.cons (.plain rfl) .nil))) (spec65 x k h3) en65
    apply Trace.pu [] (.wxor (.plain rfl) (.plain rfl))
    apply Trace.pu [] (.assign (.plain rfl))
    exact .nil _
  · exact keepOK_of hk hn rfl
  apply WPA.ret
  refine ⟨.inr rfl, ⟨_, (.cons (.tmp rfl) .nil), ?_⟩, by simp [St.get]⟩
  rfl
theorem word_step (a b c d : Int) : ((((((0 : W) <<< 8 ||| BitVec.ofInt 32 a) <<< 8) ||| BitVec.ofInt 32 b) <<< 8) ||| BitVec.ofInt 32 c) <<< 8 ||| BitVec.ofInt 32 d = word4 a b c d := by
  unfold word4
  apply BitVec.eq_of_getLsbD_eq
  intro i hi
  simp only [BitVec.getLsbD_or, BitVec.getLsbD_shiftLeft]
  by_cases h1 : i < 8
  · simp [h1, show i < 16 by omega, show i < 24 by omega]
  · by_cases h2 : i < 16
    · simp [h1, h2, show i < 24 by omega, hi, show i - 8 < 8 by omega, show i - 8 < 32 by omega]
    · by_cases h3 : i < 24
      · simp [h1, h2, h3, hi, show ¬ (i - 8 < 8) by omega, show i - 8 - 8 < 8 by omega, show i - 8 < 32 by omega, show i - 8 - 8 < 32 by omega, show i - 8 - 8 = i - 16 by omega, show i - 16 < 8 by omega]
      · simp [h1, h2, h3, hi, show ¬ (i - 8 < 8) by omega, show ¬ (i - 8 - 8 < 8) by omega, show i - 8 < 32 by omega, show i - 8 - 8 < 32 by omega, show i - 8 - 8 = i - 16 by omega, show i - 16 - 8 = i - 24 by omega, show i - 16 < 32 by omega, show ¬ (i - 16 < 8) by omega]
def wfold (b : List Int) : Nat → W
  | 0 => 0
  | n + 1 => (wfold b n <<< 8) ||| BitVec.ofInt 32 (b.getD n 0)
/-- soundpost/digest.word -/
theorem spec64 (b : List Int) (n : Nat) (g : Nat → List D) (hn : 4 ≤ n) (hg : ∀ i, i < 4 → g i = [.v (.int .u8 (b.getD i 0))]) : FnSpec Tryd.prog 64 [.d (.rows 1 n g)] [] (wv (word4 (b.getD 0 0) (b.getD 1 0) (b.getD 2 0) (b.getD 3 0))) [] [] := by
  refine fnSpec_of (rs := [.tmp 2]) Tryd.func64 rfl rfl (Nat.le_of_ble_eq_true rfl) (by simp [St.get]) fun E hk hn => ?_
  apply WPA.seq
  apply WPA.region
  · apply Trace.pu [] (.assign (.plain rfl))
    exact .nil _
  · exact keepOK_of hk hn rfl
  apply WPA.seq
  apply WPA.seq
  apply WPA.region
  · apply Trace.pu [] (.move (.plain rfl))
    apply Trace.pu [] (.cutRows so54 (.plain rfl) (.no _) (.to _ (.plain rfl) (fun _ => by decide)) (fun _ => ⟨by omega, by show (4 : Int).toNat ≤ n; omega⟩))
    apply Trace.pu [] (.len rfl Tryd.underlying54 (.plain rfl) rfl)
    apply Trace.pu [] (.move (.plain rfl))
    exact .nil _
  · exact keepOK_of hk hn rfl
  apply WPA.block
  refine WPA.loop (σ := Nat) (fun i => [(sl 2, .av (wv (wfold b i))), (sl 6, .av (.d (.rows 1 4 fun i => g (0 + i)))), (sl 7, .av (iv .i64 (4))), (sl 8, .av (iv .i64 (i)))]) (fun i => i ≤ 4) (fun i => 4 - i) 0
    (St.le_cons rfl (St.le_cons rfl (St.le_cons rfl (St.le_cons rfl (St.le_nil _))))) (Nat.zero_le _) fun i hi => ?_
  apply WPA.seq
  apply WPA.region
  · apply Trace.pu [] (.cmp (.plain rfl) (.plain rfl) rfl)
    exact .nil _
  · exact keepOK_of hk hn rfl
  apply WPA.seq
  refine WPA.cond rfl (fun hc1 => ?_) (fun hc1 => ?_)
  · have hlt : i < 4 := by simp at hc1; omega
    apply WPA.skip
    apply WPA.seq
    apply WPA.block
    apply WPA.seq
    apply WPA.region
    · first | apply Trace.pu [] (.indexRows el54 (.plain rfl) (.plain rfl) (fun _ => ⟨by omega, by omega⟩)) | apply Trace.pu [] (.indexOwn el54 (.plain rfl) (.plain rfl) (fun _ => ⟨by omega, by omega⟩)) | apply Trace.pu [] (.indexSl el54 (.plain rfl) (.plain rfl) (fun _ => ⟨by omega, by omega⟩)) | apply Trace.pu [] (.indexSa el54 (.plain rfl) (.plain rfl) (fun _ => ⟨by omega, by omega⟩))
      apply Trace.pu [] ((Pure.loadRp1 ty5 (.plain rfl) (r := .v (.int .u8 (b.getD i 0))) (by show (g (0 + (i : Int).toNat))[0]? = _; rw [Nat.zero_add, Int.toNat_natCast, hg i hlt]; rfl)))
      apply Trace.pu [] (.assign (.plain rfl))
      exact .nil _
    · exact keepOK_of hk hn rfl
    apply WPA.region
    · apply Trace.pu [] (.move (.plain rfl))
      apply Trace.pu [] (.wshl (.plain rfl) (.plain rfl) (fun _ => by decide) (fun _ => by decide))
      apply Trace.pu [] (.move (.plain rfl))
      apply Trace.pu [] (.wconv Tryd.underlying5 Tryd.underlying93 (.plain rfl))
      apply Trace.pu [] (.wor (.plain rfl) (.plain rfl))
      apply Trace.pu [] (.assign (.plain rfl))
      exact .nil _
    · exact keepOK_of hk hn rfl
    apply WPA.region
    · apply Trace.pu [] (.arith (.plain rfl) (.plain rfl) rfl (fun _ => bd64 (by omega)))
      apply Trace.pu [] (.move (.plain rfl))
      exact .nil _
    · exact keepOK_of hk hn rfl
    exact ⟨i + 1, by omega, by omega, St.le_cons rfl (St.le_cons rfl (St.le_cons rfl (St.le_cons (iv_eq (by omega)) (St.le_nil _))))⟩
  · have h4 : i = 4 := by simp at hc1; omega
    subst h4
    apply WPA.exit
    apply WPA.seq
    apply WPA.region
    · apply Trace.pu [] (.move (.plain rfl))
      apply Trace.pu [] (.assign (.plain rfl))
      exact .nil _
    · exact keepOK_of hk hn rfl
    apply WPA.ret
    refine ⟨.inr rfl, ⟨_, (.cons (.tmp rfl) .nil), ?_⟩, by simp [St.get]⟩
    exact wv_eq (word_step _ _ _ _).symm

end Go.Proofs.YtmdfamnnnoieaaaDoor


/- digest: put and absorb. -/
namespace Go.Proofs.YtmdfamnnnoieaaaDoor
open Go
set_option linter.unusedVariables false
set_option linter.unusedSimpArgs false
set_option maxRecDepth 10000
set_option maxHeartbeats 1000000

theorem putB_get {len u j : Nat} (h : j < len) : (putB len u)[j]? = some ((u / 2 ^ (8 * (len - 1 - j)) % 256 : Nat) : Int) := by simp [putB, h]
def putP (xs : List Int) (lo len u i : Nat) : List Int := spliceL xs (lo + (len - i)) ((putB len u).drop (len - i))
theorem putP_zero (xs : List Int) (lo len u : Nat) : putP xs lo len u 0 = xs := by
  have : (putB len u).drop len = [] := List.drop_of_length_le (by simp [putB_length])
  simp [putP, spliceL, this]
theorem putP_length {xs : List Int} {lo len u i : Nat} (h : lo + len ≤ xs.length) : (putP xs lo len u i).length = xs.length := by
  unfold putP
  rw [spliceL_length (by simp [putB_length]; omega)]
theorem putP_all (xs : List Int) (lo len u : Nat) : putP xs lo len u len = spliceL xs lo (putB len u) := by simp [putP]
theorem putP_set {xs : List Int} {lo len u i : Nat} (h : lo + len ≤ xs.length) (hi : i < len) : (putP xs lo len u i).set (lo + (len - 1 - i)) ((u / 2 ^ (8 * i) % 256 : Nat) : Int) = putP xs lo len u (i + 1) := by
  refine List.ext_getElem? fun j => ?_
  rw [List.getElem?_set, putP_length h]
  unfold putP
  rw [spliceL_get (by simp [putB_length]; omega), spliceL_get (by simp [putB_length]; omega)]
  simp only [List.length_drop, putB_length]
  by_cases h1 : lo + (len - 1 - i) = j
  · rw [if_pos h1, if_pos (by omega), if_pos (by omega), List.getElem?_drop, putB_get (by omega)]
    congr 6
    omega
  · rw [if_neg h1]
    by_cases h2 : lo + (len - i) ≤ j ∧ j < lo + (len - i) + (len - (len - i))
    · rw [if_pos h2, if_pos (by omega), List.getElem?_drop, List.getElem?_drop]
      congr 1
      omega
    · rw [if_neg h2, if_neg (by omega)]
theorem shr_byte {u i : Nat} (h : i < 8) : iv .u8 (IntKind.u8.wrap ((u : Int).fdiv (2 ^ (min (8 * (i : Int)).toNat IntKind.u64.bits)))) = iv .u8 ((u / 2 ^ (8 * i) % 256 : Nat) : Int) := by
  have e : min (8 * (i : Int)).toNat IntKind.u64.bits = 8 * i := by
    show min (8 * (i : Int)).toNat 64 = _
    omega
  rw [e, wrap_u8]
  have e2 : (2 : Int) ^ (8 * i) = ((2 ^ (8 * i) : Nat) : Int) := by simp
  rw [e2, Int.fdiv_eq_ediv_of_nonneg _ (Int.natCast_nonneg _)]
  norm_cast
/-- soundpost/digest.put -/
theorem spec56 (xs : List Int) (tot lo len cap u : Nat) (hl : xs.length = tot) (hle : lo + len ≤ tot) (hlen : len ≤ 8) (hc : len ≤ cap) (ht : tot ≤ 1000000) : FnSpec Tryd.prog 56 [.sa 0 1 lo len cap, iv .u64 u] [(bk 0, .blk (.cols 1 tot [.ints .u8 xs]))] (.tup []) [(bk 0, .blk (.cols 1 tot [.ints .u8 (spliceL xs lo (putB len u))]))] [0] := by
  refine fnSpec_of (rs := []) Tryd.func56 rfl rfl (Nat.le_of_ble_eq_true rfl) (odd_of rfl) fun E hk hn => ?_
  apply WPA.seq
  apply WPA.region
  · apply Trace.pu [] (.move (.plain rfl))
    apply Trace.pu [] (.len rfl Tryd.underlying54 (.plain rfl) rfl)
    apply Trace.pu [] (.move (.plain rfl))
    exact .nil _
  · exact keepOK_of hk hn rfl
  apply WPA.block
  refine WPA.loop (σ := Nat) (fun i => [(sl 0, .av (.sa 0 1 lo len cap)), (sl 1, .av (iv .u64 u)), (sl 6, .av (iv .i64 (len))), (sl 7, .av (iv .i64 (i))), (bk 0, .blk (.cols 1 tot [.ints .u8 (putP xs lo len u i)]))]) (fun i => i ≤ len) (fun i => len - i) 0
    (St.le_cons rfl (St.le_cons rfl (St.le_cons rfl (St.le_cons rfl (St.le_cons (by rw [putP_zero]; rfl) (St.le_nil _)))))) (Nat.zero_le _) fun i hi => ?_
  apply WPA.seq
  apply WPA.region
  · apply Trace.pu [] (.cmp (.plain rfl) (.plain rfl) rfl)
    exact .nil _
  · exact keepOK_of hk hn rfl
  apply WPA.seq
  refine WPA.cond rfl (fun hc1 => ?_) (fun hc1 => ?_)
  · have hlt : i < len := by simp at hc1; omega
    have hpl := putP_length (u := u) (i := i) (show lo + len ≤ xs.length by omega)
    apply WPA.skip
    apply WPA.seq
    apply WPA.block
    apply WPA.seq
    apply WPA.region
    · apply Trace.pu [] (.move (.plain rfl))
      apply Trace.pu [] (.assign (.plain rfl))
      exact .nil _
    · exact keepOK_of hk hn rfl
    apply WPA.region
    · apply Trace.pu [] (.move (.plain rfl))
      apply Trace.pu [] (.move (.plain rfl))
      apply Trace.pu [] (.len rfl Tryd.underlying54 (.plain rfl) rfl)
      apply Trace.pu [] (.arith (.plain rfl) (.plain rfl) rfl (fun _ => bd64 (by omega)))
      apply Trace.pu [] (.move (.plain rfl))
      apply Trace.pu [] (.arith (.plain rfl) (.plain rfl) rfl (fun _ => bd64 (by omega)))
      apply Trace.pu [] (.move (.plain rfl))
      apply Trace.pu [] (.move (.plain rfl))
      apply Trace.pu [] (.arith (.plain rfl) (.plain rfl) rfl (fun _ => bd64 (by omega)))
      apply Trace.pu [] (.shr (.plain rfl) (.plain rfl) (fun _ => by omega))
      apply Trace.pu [] ((Pure.conv Tryd.underlying91 Tryd.underlying5 (.plain rfl)).to (shr_byte (u := u) (i := i) (by omega)))
      apply Trace.pu [] ((Pure.indexSa el54 (.plain rfl) (.plain rfl) (fun _ => ⟨by omega, by omega⟩)).to (y := .locr 0 1 (lo + (len - 1 - i)) 0) (by congr 1; omega))
      apply Trace.storeRow ty5 (.plain rfl) (.plain rfl) rfl rfl rfl rfl (by decide) (by simp [AV.oneB, single]) rfl (by omega)
      exact .nil _
    · exact keepOK_of hk hn rfl
    apply WPA.region
    · apply Trace.pu [] (.arith (.plain rfl) (.plain rfl) rfl (fun _ => bd64 (by omega)))
      apply Trace.pu [] (.move (.plain rfl))
      exact .nil _
    · exact keepOK_of hk hn rfl
    exact ⟨i + 1, by omega, by omega, St.le_cons rfl (St.le_cons rfl (St.le_cons rfl (St.le_cons (iv_eq (by omega)) (St.le_cons (blk_eq (by show Blk.cols 1 tot [.ints .u8 ((putP xs lo len u i).set (lo + (len - 1 - i)) _)] = _; rw [putP_set (by omega) hlt])) (St.le_nil _)))))⟩
  · have hend : i = len := by simp at hc1; omega
    subst hend
    rw [putP_all]
    apply WPA.exit
    refine ⟨.inl rfl, ⟨_, (.nil), ?_⟩, blks_of (.cons rfl .nil)⟩
    rfl
abbrev V8.ws (s : V8) : List Int := [wi s.a, wi s.b, wi s.c, wi s.d, wi s.e, wi s.f, wi s.g, wi s.h]
theorem word16_length (b : List Int) : (word16 b).length = 16 := by simp [word16]
theorem word16_get {b : List Int} {i : Nat} (h : i < 16) : (word16 b)[i]? = some (word4 (b.getD (4 * i) 0) (b.getD (4 * i + 1) 0) (b.getD (4 * i + 2) 0) (b.getD (4 * i + 3) 0)) := by simp [word16, h]
def padW (l : List W) : List Int := l.map wi ++ List.replicate (64 - l.length) 0
theorem padW_set {l : List W} (h : l.length < 64) (x : W) : (padW l).set l.length (wi x) = padW (l ++ [x]) := by
  unfold padW
  have : 64 - l.length = (64 - (l.length + 1)) + 1 := by omega
  rw [this, List.replicate_succ]
  simp
theorem padW_get {l : List W} {j : Nat} (h : j < l.length) : (padW l).getD j 0 = wi (l.getD j 0) := by
  unfold padW
  simp [List.getD_eq_getElem?_getD, List.getElem?_append, h]
theorem padW_length {l : List W} (h : l.length ≤ 64) : (padW l).length = 64 := by
  unfold padW; simp; omega
theorem pad_at {l : List W} {k j : Nat} (e : k = j) (h : j < l.length) : AV.d (Col.at (.ints .u32 (padW l)) k) = wv (l.getD j 0) := by
  subst e
  exact congrArg (fun n => iv .u32 n) (padW_get h)
theorem sch_length (l : List W) (n : Nat) : (sch l n).length = l.length + n := by
  induction n with
  | zero => rfl
  | succ n ih => simp [sch, ih]; omega
theorem kk_glob {i : Nat} (h : i < 64) : ((((globs.getD 1 (0, [])).2.drop ((i : Int)).toNat).map D.v)[0]? : Option D) = some (.v (.int .u32 (wi (kk.getD i 0)))) := by
  have e : (globs.getD 1 (0, [])).2 = kk.map fun x => .int .u32 (wi x) := by kernel_rfl
  have hl : kk.length = 64 := by rfl
  have hi : i < kk.length := by omega
  rw [e]
  simp [hi]
theorem s_get {s : V8} {i : Nat} (h : i < 8) : s.ws.getD i 0 = wi (s.l.getD i 0) := by
  match i, h with
  | 0, _ => rfl | 1, _ => rfl | 2, _ => rfl | 3, _ => rfl | 4, _ => rfl | 5, _ => rfl | 6, _ => rfl | 7, _ => rfl
def plusTo (s v : V8) (i : Nat) : List Int := ((s.plus v).ws).take i ++ s.ws.drop i
theorem plusTo_get {s v : V8} {i : Nat} (h : i < 8) : (plusTo s v i).getD i 0 = wi (s.l.getD i 0) := by
  match i, h with
  | 0, _ => rfl | 1, _ => rfl | 2, _ => rfl | 3, _ => rfl | 4, _ => rfl | 5, _ => rfl | 6, _ => rfl | 7, _ => rfl
theorem plus_at {s v : V8} {k i : Nat} (e : k = i) (h : i < 8) : AV.d (Col.at (.ints .u32 (plusTo s v i)) k) = wv (s.l.getD i 0) := by
  subst e
  exact congrArg (fun n => iv .u32 n) (plusTo_get h)
theorem ws_at {v : V8} {k i : Nat} (e : k = i) (h : i < 8) : AV.d (Col.at (.ints .u32 v.ws) k) = wv (v.l.getD i 0) := by
  subst e
  exact congrArg (fun n => iv .u32 n) (s_get h)
theorem plusTo_set {s v : V8} {i : Nat} (h : i < 8) : (plusTo s v i).set i (wi (s.l.getD i 0 + v.l.getD i 0)) = plusTo s v (i + 1) := by
  match i, h with
  | 0, _ => rfl | 1, _ => rfl | 2, _ => rfl | 3, _ => rfl | 4, _ => rfl | 5, _ => rfl | 6, _ => rfl | 7, _ => rfl
theorem plusTo_length {s v : V8} {i : Nat} (h : i ≤ 8) : (plusTo s v i).length = 8 := by simp [plusTo]; omega
theorem take_succ16 {b : List Int} {i : Nat} (h : i < 16) : (word16 b).take (i + 1) = (word16 b).take i ++ [word4 (b.getD (4 * i) 0) (b.getD (4 * i + 1) 0) (b.getD (4 * i + 2) 0) (b.getD (4 * i + 3) 0)] := by
  rw [List.take_add_one, word16_get h]; rfl
/-- (soundpost/digest.state).absorb -/
theorem spec55 (s : V8) (b : List Int) (g : Nat → List D) (hg : ∀ i, i < 64 → g i = [.v (.int .u8 (b.getD i 0))]) : FnSpec Tryd.prog 55 [.loc 0 0, .d (.rows 1 64 g)] [(bk 0, .blk (.cols 1 8 [.ints .u32 s.ws]))] (.tup []) [(bk 0, .blk (.cols 1 8 [.ints .u32 (s.blk b).ws]))] [0] := by
  refine fnSpec_of (rs := []) Tryd.func55 rfl rfl (Nat.le_of_ble_eq_true rfl) (odd_of rfl) fun E hk hn => ?_
  apply WPA.seq
  apply WPA.region
  · apply Trace.alloc 1 [] (.cols 1 64 [.ints .u32 (List.replicate 64 0)]) zo106 (cellsAs_ints 64 .u32 0) rfl
    exact .nil _
  · exact keepOK_of hk hn rfl
  apply WPA.seq
  apply WPA.seq
  apply WPA.region
  · apply Trace.pu [] (.move (.plain rfl))
    exact .nil _
  · exact keepOK_of hk hn rfl
  apply WPA.block
  refine WPA.loop (σ := Nat) (fun i => [(sl 0, .av (.loc 0 0)), (sl 1, .av (.d (.rows 1 64 g))), (sl 4, .av (.loc 1 0)), (sl 14, .av (iv .i64 (i))), (bk 0, .blk (.cols 1 8 [.ints .u32 s.ws])), (bk 1, .blk (.cols 1 64 [.ints .u32 (padW ((word16 b).take i))]))]) (fun i => i ≤ 16) (fun i => 16 - i) 0
    (St.le_cons rfl (St.le_cons rfl (St.le_cons rfl (St.le_cons rfl (St.le_cons rfl (St.le_cons rfl (St.le_nil _))))))) (Nat.zero_le _) fun i hi => ?_
  apply WPA.seq
  apply WPA.region
  · apply Trace.pu [] (.cmp (.plain rfl) (.plain rfl) rfl)
    exact .nil _
  · exact keepOK_of hk hn rfl
  apply WPA.seq
  refine WPA.cond rfl (fun hc1 => ?_) (fun hc1 => ?_)
  · have hlt : i < 16 := by simp at hc1; omega
    have htl : ((word16 b).take i).length = i := by rw [List.length_take, word16_length]; omega
    apply WPA.skip
    apply WPA.seq
    apply WPA.block
    apply WPA.seq
    apply WPA.region
    · apply Trace.pu [] (.move (.plain rfl))
      apply Trace.pu [] (.assign (.plain rfl))
      exact .nil _
    · exact keepOK_of hk hn rfl
    apply WPA.region
    · apply Trace.pu [] (.move (.plain rfl))
      apply Trace.pu [] (.move (.plain rfl))
      apply Trace.pu [] (.move (.plain rfl))
      apply Trace.pu [] (.arith (.plain rfl) (.plain rfl) rfl (fun _ => bd64 (by omega)))
      apply Trace.pu [] (.cutRows so54 (.plain rfl) (.to _ (.plain rfl) (fun _ => by omega)) (.no _) (fun _ => ⟨by omega, by omega⟩))
      apply Trace.cu (callArgs0 (.cons (.plain rfl) .nil)) (spec64 (b.drop (4 * i)) _ _ (by omega) (fun j hj => by show g ((4 * (i : Int)).toNat + j) = _; rw [hg _ (by omega), show (4 * (i : Int)).toNat = 4 * i by omega]; simp [List.getD_eq_getElem?_getD])) en64
      apply Trace.pu [] (.indexArr ar106 (.plain rfl) (.plain rfl) (fun _ => ⟨by omega, by omega⟩))
      apply Trace.storeRow ty93 (.plain rfl) (.plain rfl) rfl rfl rfl rfl (by decide) (by simp [AV.oneB, single]) rfl (by omega)
      exact .nil _
    · exact keepOK_of hk hn rfl
    apply WPA.region
    · apply Trace.pu [] (.arith (.plain rfl) (.plain rfl) rfl (fun _ => bd64 (by omega)))
      apply Trace.pu [] (.move (.plain rfl))
      exact .nil _
    · exact keepOK_of hk hn rfl
    exact ⟨i + 1, by omega, by omega, St.le_cons rfl (St.le_cons rfl (St.le_cons rfl (St.le_cons (iv_eq (by omega)) (St.le_cons rfl (St.le_cons (blk_eq (by show Blk.cols 1 64 [.ints .u32 ((padW ((word16 b).take i)).set (i : Int).toNat (wi _))] = _; rw [take_succ16 hlt, ← padW_set (by omega), htl, Int.toNat_natCast]; simp [List.getD_eq_getElem?_getD])) (St.le_nil _))))))⟩
  · have h16 : i = 16 := by simp at hc1; omega
    subst h16
    have ht16 : (word16 b).take 16 = word16 b := List.take_of_length_le (by rw [word16_length]; omega)
    rw [ht16]
    apply WPA.exit
    apply WPA.seq
    apply WPA.seq
    apply WPA.region
    · apply Trace.pu [] (.assign (.plain rfl))
      exact .nil _
    · exact keepOK_of hk hn rfl
    apply WPA.block
    refine WPA.loop (σ := Nat) (fun n => [(sl 0, .av (.loc 0 0)), (sl 4, .av (.loc 1 0)), (sl 6, .av (iv .i64 (16 + n))), (bk 0, .blk (.cols 1 8 [.ints .u32 s.ws])), (bk 1, .blk (.cols 1 64 [.ints .u32 (padW (sch (word16 b) n))]))]) (fun n => n ≤ 48) (fun n => 48 - n) 0
      (St.le_cons rfl (St.le_cons rfl (St.le_cons rfl (St.le_cons rfl (St.le_cons rfl (St.le_nil _)))))) (Nat.zero_le _) fun n hn2 => ?_
    apply WPA.seq
    apply WPA.seq
    apply WPA.region
    · apply Trace.pu [] (.move (.plain rfl))
      apply Trace.pu [] (.cmp (.plain rfl) (.plain rfl) rfl)
      exact .nil _
    · exact keepOK_of hk hn rfl
    refine WPA.cond rfl (fun hc2 => ?_) (fun hc2 => ?_)
    · have hlt : n < 48 := by simp at hc2; omega
      have hsl := sch_length (word16 b) n
      rw [word16_length] at hsl
      have h64 := padW_length (l := sch (word16 b) n) (by omega)
      apply WPA.skip
      apply WPA.seq
      apply WPA.block
      apply WPA.seq
      apply WPA.draw mixed
      · apply Trace.pu [] (.move (.plain rfl))
        apply Trace.pu [] (.arith (.plain rfl) (.plain rfl) rfl (fun _ => bd64 (by omega)))
        first | apply Trace.pu [] (.indexArr ar106 (.plain rfl) (.plain rfl) (fun _ => ⟨by omega, by omega⟩)) | apply Trace.pu [] (.indexLoc ar106 (.plain rfl) (.plain rfl) (fun _ => by decide) rfl)
        apply Trace.pu [_] ((Pure.loadCol1 ty93 (.plain rfl) rfl rfl rfl (fun _ => by omega)).to (y := wv ((sch (word16 b) n).getD (n + 1) 0)) (by exact pad_at (by omega) (by omega)))
        apply Trace.pu [] (.move (.plain rfl))
        apply Trace.pu [] (.arith (.plain rfl) (.plain rfl) rfl (fun _ => bd64 (by omega)))
        first | apply Trace.pu [] (.indexArr ar106 (.plain rfl) (.plain rfl) (fun _ => ⟨by omega, by omega⟩)) | apply Trace.pu [] (.indexLoc ar106 (.plain rfl) (.plain rfl) (fun _ => by decide) rfl)
        apply Trace.pu [_] ((Pure.loadCol1 ty93 (.plain rfl) rfl rfl rfl (fun _ => by omega)).to (y := wv ((sch (word16 b) n).getD (n + 14) 0)) (by exact pad_at (by omega) (by omega)))
        apply Trace.pu [] (.assign (.plain rfl))
        apply Trace.pu [] (.assign (.plain rfl))
        exact .nil _
      · rfl
      · exact keepOK_of hk hn rfl
      apply WPA.draw mixed
      · apply Trace.pu [] (.move (.plain rfl))
        apply Trace.pu [] (.move (.plain rfl))
        apply Trace.pu [] (.arith (.plain rfl) (.plain rfl) rfl (fun _ => bd64 (by omega)))
        first | apply Trace.pu [] (.indexArr ar106 (.plain rfl) (.plain rfl) (fun _ => ⟨by omega, by omega⟩)) | apply Trace.pu [] (.indexLoc ar106 (.plain rfl) (.plain rfl) (fun _ => by decide) rfl)
        apply Trace.pu [_] ((Pure.loadCol1 ty93 (.plain rfl) rfl rfl rfl (fun _ => by omega)).to (y := wv ((sch (word16 b) n).getD n 0)) (by exact pad_at (by omega) (by omega)))
        apply Trace.pu [] (.move (.plain rfl))
        apply Trace.cu (callArgs0 (.cons (.plain rfl) (.cons (.plain rfl) .nil))) (spec65 _ 7 (by decide)) en65
        apply Trace.pu [] (.move (.plain rfl))
        apply Trace.cu (callArgs0 (.cons (.plain rfl) (.cons (.plain rfl) .nil))) (spec65 _ 18 (by decide)) en65
        apply Trace.pu [] (.wxor (.plain rfl) (.plain rfl))
        apply Trace.pu [] (.move (.plain rfl))
        apply Trace.pu [] (.wshr (.plain rfl) (.plain rfl) (fun _ => by decide) (fun _ => by decide))
        apply Trace.pu [] (.wxor (.plain rfl) (.plain rfl))
        apply Trace.pu [] (.wadd (.plain rfl) (.plain rfl))
        apply Trace.pu [] (.move (.plain rfl))
        apply Trace.pu [] (.arith (.plain rfl) (.plain rfl) rfl (fun _ => bd64 (by omega)))
        first | apply Trace.pu [] (.indexArr ar106 (.plain rfl) (.plain rfl) (fun _ => ⟨by omega, by omega⟩)) | apply Trace.pu [] (.indexLoc ar106 (.plain rfl) (.plain rfl) (fun _ => by decide) rfl)
        apply Trace.pu [_] ((Pure.loadCol1 ty93 (.plain rfl) rfl rfl rfl (fun _ => by omega)).to (y := wv ((sch (word16 b) n).getD (n + 9) 0)) (by exact pad_at (by omega) (by omega)))
        apply Trace.pu [] (.wadd (.plain rfl) (.plain rfl))
        apply Trace.pu [] (.move (.plain rfl))
        apply Trace.cu (callArgs0 (.cons (.plain rfl) (.cons (.plain rfl) .nil))) (spec65 _ 17 (by decide)) en65
        apply Trace.pu [] (.move (.plain rfl))
        apply Trace.cu (callArgs0 (.cons (.plain rfl) (.cons (.plain rfl) .nil))) (spec65 _ 19 (by decide)) en65
        apply Trace.pu [] (.wxor (.plain rfl) (.plain rfl))
        apply Trace.pu [] (.move (.plain rfl))
        apply Trace.pu [] (.wshr (.plain rfl) (.plain rfl) (fun _ => by decide) (fun _ => by decide))
        apply Trace.pu [] (.wxor (.plain rfl) (.plain rfl))
        apply Trace.pu [] (.wadd (.plain rfl) (.plain rfl))
        first | apply Trace.pu [] (.indexArr ar106 (.plain rfl) (.plain rfl) (fun _ => ⟨by omega, by omega⟩)) | apply Trace.pu [] (.indexLoc ar106 (.plain rfl) (.plain rfl) (fun _ => by decide) rfl)
        apply Trace.storeRow ty93 (.plain rfl) (.plain rfl) rfl rfl rfl rfl (by decide) (by simp [AV.oneB, single]) rfl (by omega)
        exact .nil _
      · rfl
      · exact keepOK_of hk hn rfl
      apply WPA.region
      · apply Trace.pu [] (.move (.plain rfl))
        apply Trace.pu [] (.arith (.plain rfl) (.plain rfl) rfl (fun _ => bd64 (by omega)))
        apply Trace.pu [] (.assign (.plain rfl))
        exact .nil _
      · exact keepOK_of hk hn rfl
      exact ⟨n + 1, by omega, by omega, St.le_cons rfl (St.le_cons rfl (St.le_cons (iv_eq (by omega)) (St.le_cons rfl (St.le_cons (blk_eq (by show Blk.cols 1 64 [.ints .u32 ((padW (sch (word16 b) n)).set (16 + (n : Int)).toNat (wi _))] = _; rw [show (16 + (n : Int)).toNat = (sch (word16 b) n).length by omega, padW_set (by omega)]; rfl)) (St.le_nil _)))))⟩
    · have h48 : n = 48 := by simp at hc2; omega
      subst h48
      have hsl := sch_length (word16 b) 48
      rw [word16_length] at hsl
      apply WPA.exit
      apply WPA.seq
      apply WPA.region
      · apply Trace.pu [] (.move (.plain rfl))
        apply Trace.pu [] (.nilCheck (.plain rfl) rfl)
        apply Trace.pu [_] ((Pure.loadArr ty95 (.plain rfl) rfl).to (y := .d (.agg (s.ws.map fun n => .v (.int .u32 n)))) rfl)
        apply Trace.alloc 2 [] (.data _) zo95 (cellsAs_data _) rfl
        first | apply Trace.storeD ty95 (.plain rfl) (.plain rfl) rfl rfl (by simp) (by simp [AV.oneB, single]) (by simp) (spliceL_all (by simp)) | apply Trace.storeD ty95 (.plain rfl) (.plain rfl) rfl rfl (by simp) (by simp [AV.oneB, single]) (by simp) rfl | apply Trace.storeDA ty95 (.plain rfl) (.plain rfl) rfl rfl (by simp) (by simp [AV.oneB, single]) (by simp) rfl | apply Trace.storeLoc ty95 (.plain rfl) (.plain rfl) rfl rfl (by simp) (by simp [AV.oneB, single]) (by simp) rfl | apply Trace.storeRow ty95 (.plain rfl) (.plain rfl) rfl rfl rfl rfl (by decide) (by simp [AV.oneB, single]) rfl (by omega)
        exact .nil _
      · exact keepOK_of hk hn rfl
      apply WPA.seq
      apply WPA.seq
      refine WPA.ghost (Ghost.dataCols (l := 2) (n := 8) (col := .ints .u32 s.ws) rfl rfl rfl) ?_
      apply WPA.region
      · apply Trace.pu [] (.move (.plain rfl))
        exact .nil _
      · exact keepOK_of hk hn rfl
      apply WPA.block
      refine WPA.loop (σ := Nat) (fun i => [(sl 0, .av (.loc 0 0)), (sl 4, .av (.loc 1 0)), (sl 9, .av (.loc 2 0)), (sl 69, .av (iv .i64 (i))), (bk 0, .blk (.cols 1 8 [.ints .u32 s.ws])), (bk 1, .blk (.cols 1 64 [.ints .u32 (padW (sch (word16 b) 48))])), (bk 2, .blk (.cols 1 8 [.ints .u32 (V8.rnds (sch (word16 b) 48) s i).ws]))]) (fun i => i ≤ 64) (fun i => 64 - i) 0
        (St.le_cons rfl (St.le_cons rfl (St.le_cons rfl (St.le_cons rfl (St.le_cons rfl (St.le_cons rfl (St.le_cons rfl (St.le_nil _)))))))) (Nat.zero_le _) fun i hi => ?_
      apply WPA.seq
      apply WPA.region
      · apply Trace.pu [] (.cmp (.plain rfl) (.plain rfl) rfl)
        exact .nil _
      · exact keepOK_of hk hn rfl
      apply WPA.seq
      refine WPA.cond rfl (fun hc3 => ?_) (fun hc3 => ?_)
      · have hlt : i < 64 := by simp at hc3; omega
        obtain ⟨v, hv⟩ : ∃ v, V8.rnds (sch (word16 b) 48) s i = v := ⟨_, rfl⟩
        have hv1 : V8.rnds (sch (word16 b) 48) s (i + 1) = v.rnd (kk.getD i 0) ((sch (word16 b) 48).getD i 0) := by rw [← hv]; rfl
        rw [hv]
        apply WPA.skip
        apply WPA.seq
        apply WPA.block
        apply WPA.seq
        apply WPA.region
        · apply Trace.pu [] (.move (.plain rfl))
          apply Trace.pu [] (.assign (.plain rfl))
          exact .nil _
        · exact keepOK_of hk hn rfl
        apply WPA.seq
        apply WPA.draw mixed
        · first | apply Trace.pu [] (.indexArr ar95 (.plain rfl) (.plain rfl) (fun _ => ⟨by omega, by omega⟩)) | apply Trace.pu [] (.indexLoc ar95 (.plain rfl) (.plain rfl) (fun _ => by decide) rfl)
          apply Trace.pu [_] ((Pure.loadCol1 ty93 (.plain rfl) rfl rfl rfl (fun _ => by decide)).to (y := wv v.h) rfl)
          first | apply Trace.pu [] (.indexArr ar95 (.plain rfl) (.plain rfl) (fun _ => ⟨by omega, by omega⟩)) | apply Trace.pu [] (.indexLoc ar95 (.plain rfl) (.plain rfl) (fun _ => by decide) rfl)
          apply Trace.pu [_] ((Pure.loadCol1 ty93 (.plain rfl) rfl rfl rfl (fun _ => by decide)).to (y := wv v.e) rfl)
          apply Trace.cu (callArgs0 (.cons (.plain rfl) (.cons (.plain rfl) (.cons (.plain rfl) (.cons (.plain rfl) .nil))))) (spec66 v.e 6 11 25 (by decide) (by decide) (by decide)) en66
          apply Trace.pu [] (.wadd (.plain rfl) (.plain rfl))
          first | apply Trace.pu [] (.indexArr ar95 (.plain rfl) (.plain rfl) (fun _ => ⟨by omega, by omega⟩)) | apply Trace.pu [] (.indexLoc ar95 (.plain rfl) (.plain rfl) (fun _ => by decide) rfl)
          apply Trace.pu [_] ((Pure.loadCol1 ty93 (.plain rfl) rfl rfl rfl (fun _ => by decide)).to (y := wv v.g) rfl)
          first | apply Trace.pu [] (.indexArr ar95 (.plain rfl) (.plain rfl) (fun _ => ⟨by omega, by omega⟩)) | apply Trace.pu [] (.indexLoc ar95 (.plain rfl) (.plain rfl) (fun _ => by decide) rfl)
          apply Trace.pu [_] ((Pure.loadCol1 ty93 (.plain rfl) rfl rfl rfl (fun _ => by decide)).to (y := wv v.e) rfl)
          first | apply Trace.pu [] (.indexArr ar95 (.plain rfl) (.plain rfl) (fun _ => ⟨by omega, by omega⟩)) | apply Trace.pu [] (.indexLoc ar95 (.plain rfl) (.plain rfl) (fun _ => by decide) rfl)
          apply Trace.pu [_] ((Pure.loadCol1 ty93 (.plain rfl) rfl rfl rfl (fun _ => by decide)).to (y := wv v.f) rfl)
          first | apply Trace.pu [] (.indexArr ar95 (.plain rfl) (.plain rfl) (fun _ => ⟨by omega, by omega⟩)) | apply Trace.pu [] (.indexLoc ar95 (.plain rfl) (.plain rfl) (fun _ => by decide) rfl)
          apply Trace.pu [_] ((Pure.loadCol1 ty93 (.plain rfl) rfl rfl rfl (fun _ => by decide)).to (y := wv v.g) rfl)
          apply Trace.pu [] (.wxor (.plain rfl) (.plain rfl))
          apply Trace.pu [] (.wand (.plain rfl) (.plain rfl))
          apply Trace.pu [] ((Pure.wxor (.plain rfl) (.plain rfl)).to (y := wv (ch v.e v.f v.g)) (wv_eq (ch_eq _ _ _)))
          apply Trace.pu [] (.wadd (.plain rfl) (.plain rfl))
          apply Trace.pu [] (.move (.plain rfl))
          apply Trace.pu [] (.indexGlob (.tail _ (.head _)) ar106 rfl (.plain rfl) (fun _ => ⟨by omega, by omega⟩))
          apply Trace.pu [] (.loadRp1 ty93 (.plain rfl) (r := .v (.int .u32 (wi (kk.getD i 0)))) (kk_glob hlt))
          apply Trace.pu [] (.wadd (.plain rfl) (.plain rfl))
          apply Trace.pu [] (.move (.plain rfl))
          first | apply Trace.pu [] (.indexArr ar106 (.plain rfl) (.plain rfl) (fun _ => ⟨by omega, by omega⟩)) | apply Trace.pu [] (.indexLoc ar106 (.plain rfl) (.plain rfl) (fun _ => by decide) rfl)
          apply Trace.pu [_] ((Pure.loadCol1 ty93 (.plain rfl) rfl rfl rfl (fun _ => by omega)).to (y := wv ((sch (word16 b) 48).getD i 0)) (by exact pad_at (by omega) (by omega)))
          apply Trace.pu [] (.wadd (.plain rfl) (.plain rfl))
          apply Trace.pu [] (.assign (.plain rfl))
          exact .nil _
        · rfl
        · exact keepOK_of hk hn rfl
        apply WPA.seq
        apply WPA.draw mixed
        · first | apply Trace.pu [] (.indexArr ar95 (.plain rfl) (.plain rfl) (fun _ => ⟨by omega, by omega⟩)) | apply Trace.pu [] (.indexLoc ar95 (.plain rfl) (.plain rfl) (fun _ => by decide) rfl)
          apply Trace.pu [_] ((Pure.loadCol1 ty93 (.plain rfl) rfl rfl rfl (fun _ => by decide)).to (y := wv v.a) rfl)
          apply Trace.cu (callArgs0 (.cons (.plain rfl) (.cons (.plain rfl) (.cons (.plain rfl) (.cons (.plain rfl) .nil))))) (spec66 v.a 2 13 22 (by decide) (by decide) (by decide)) en66
          first | apply Trace.pu [] (.indexArr ar95 (.plain rfl) (.plain rfl) (fun _ => ⟨by omega, by omega⟩)) | apply Trace.pu [] (.indexLoc ar95 (.plain rfl) (.plain rfl) (fun _ => by decide) rfl)
          apply Trace.pu [_] ((Pure.loadCol1 ty93 (.plain rfl) rfl rfl rfl (fun _ => by decide)).to (y := wv v.a) rfl)
          first | apply Trace.pu [] (.indexArr ar95 (.plain rfl) (.plain rfl) (fun _ => ⟨by omega, by omega⟩)) | apply Trace.pu [] (.indexLoc ar95 (.plain rfl) (.plain rfl) (fun _ => by decide) rfl)
          apply Trace.pu [_] ((Pure.loadCol1 ty93 (.plain rfl) rfl rfl rfl (fun _ => by decide)).to (y := wv v.b) rfl)
          apply Trace.pu [] (.wand (.plain rfl) (.plain rfl))
          first | apply Trace.pu [] (.indexArr ar95 (.plain rfl) (.plain rfl) (fun _ => ⟨by omega, by omega⟩)) | apply Trace.pu [] (.indexLoc ar95 (.plain rfl) (.plain rfl) (fun _ => by decide) rfl)
          apply Trace.pu [_] ((Pure.loadCol1 ty93 (.plain rfl) rfl rfl rfl (fun _ => by decide)).to (y := wv v.c) rfl)
          first | apply Trace.pu [] (.indexArr ar95 (.plain rfl) (.plain rfl) (fun _ => ⟨by omega, by omega⟩)) | apply Trace.pu [] (.indexLoc ar95 (.plain rfl) (.plain rfl) (fun _ => by decide) rfl)
          apply Trace.pu [_] ((Pure.loadCol1 ty93 (.plain rfl) rfl rfl rfl (fun _ => by decide)).to (y := wv v.a) rfl)
          first | apply Trace.pu [] (.indexArr ar95 (.plain rfl) (.plain rfl) (fun _ => ⟨by omega, by omega⟩)) | apply Trace.pu [] (.indexLoc ar95 (.plain rfl) (.plain rfl) (fun _ => by decide) rfl)
          apply Trace.pu [_] ((Pure.loadCol1 ty93 (.plain rfl) rfl rfl rfl (fun _ => by decide)).to (y := wv v.b) rfl)
          apply Trace.pu [] (.wor (.plain rfl) (.plain rfl))
          apply Trace.pu [] (.wand (.plain rfl) (.plain rfl))
          apply Trace.pu [] ((Pure.wor (.plain rfl) (.plain rfl)).to (y := wv (maj v.a v.b v.c)) (wv_eq (maj_eq _ _ _)))
          apply Trace.pu [] (.wadd (.plain rfl) (.plain rfl))
          apply Trace.pu [] (.assign (.plain rfl))
          exact .nil _
        · rfl
        · exact keepOK_of hk hn rfl
        apply WPA.seq
        apply WPA.draw mixed
        · first | apply Trace.pu [] (.sliceArr ar95 (.plain rfl) (.to _ (.plain rfl) (fun _ => by decide)) (.no _) (fun _ => ⟨by omega, by omega, by omega⟩))
          first | apply Trace.pu [] (.sliceArr ar95 (.plain rfl) (.no _) (.to _ (.plain rfl) (fun _ => by decide)) (fun _ => ⟨by omega, by omega, by omega⟩))
          apply Trace.copy (n := 7) (zs := [wi v.a, wi v.a, wi v.b, wi v.c, wi v.d, wi v.e, wi v.f, wi v.g]) so110 (.plain rfl) rfl (.sa (.plain rfl) rfl (by decide) rfl) (by decide) rfl rfl
          exact .nil _
        · rfl
        · exact keepOK_of hk hn rfl
        apply WPA.seq
        apply WPA.region
        · first | apply Trace.pu [] (.indexArr ar95 (.plain rfl) (.plain rfl) (fun _ => ⟨by omega, by omega⟩)) | apply Trace.pu [] (.indexLoc ar95 (.plain rfl) (.plain rfl) (fun _ => by decide) rfl)
          apply Trace.pu [_] ((Pure.loadCol1 ty93 (.plain rfl) rfl rfl rfl (fun _ => by decide)).to (y := wv v.d) rfl)
          apply Trace.pu [] (.move (.plain rfl))
          apply Trace.pu [] (.wadd (.plain rfl) (.plain rfl))
          first | apply Trace.pu [] (.indexArr ar95 (.plain rfl) (.plain rfl) (fun _ => ⟨by omega, by omega⟩)) | apply Trace.pu [] (.indexLoc ar95 (.plain rfl) (.plain rfl) (fun _ => by decide) rfl)
          apply Trace.storeRow ty93 (.plain rfl) (.plain rfl) rfl rfl rfl rfl (by decide) (by simp [AV.oneB, single]) rfl (by decide)
          exact .nil _
        · exact keepOK_of hk hn rfl
        apply WPA.region
        · apply Trace.pu [] (.move (.plain rfl))
          apply Trace.pu [] (.move (.plain rfl))
          apply Trace.pu [] (.wadd (.plain rfl) (.plain rfl))
          first | apply Trace.pu [] (.indexArr ar95 (.plain rfl) (.plain rfl) (fun _ => ⟨by omega, by omega⟩)) | apply Trace.pu [] (.indexLoc ar95 (.plain rfl) (.plain rfl) (fun _ => by decide) rfl)
          apply Trace.storeRow ty93 (.plain rfl) (.plain rfl) rfl rfl rfl rfl (by decide) (by simp [AV.oneB, single]) rfl (by decide)
          exact .nil _
        · exact keepOK_of hk hn rfl
        apply WPA.region
        · apply Trace.pu [] (.arith (.plain rfl) (.plain rfl) rfl (fun _ => bd64 (by omega)))
          apply Trace.pu [] (.move (.plain rfl))
          exact .nil _
        · exact keepOK_of hk hn rfl
        exact ⟨i + 1, by omega, by omega, St.le_cons rfl (St.le_cons rfl (St.le_cons rfl (St.le_cons (iv_eq (by omega)) (St.le_cons rfl (St.le_cons rfl (St.le_cons (blk_eq (by rw [hv1]; rfl)) (St.le_nil _)))))))⟩
      · have h64 : i = 64 := by simp at hc3; omega
        subst h64
        obtain ⟨v, hv⟩ : ∃ v, V8.rnds (sch (word16 b) 48) s 64 = v := ⟨_, rfl⟩
        rw [hv]
        apply WPA.exit
        apply WPA.seq
        apply WPA.region
        · apply Trace.pu [] (.move (.plain rfl))
          exact .nil _
        · exact keepOK_of hk hn rfl
        apply WPA.block
        refine WPA.loop (σ := Nat) (fun i => [(sl 0, .av (.loc 0 0)), (sl 9, .av (.loc 2 0)), (sl 129, .av (iv .i64 (i))), (bk 0, .blk (.cols 1 8 [.ints .u32 (plusTo s v i)])), (bk 2, .blk (.cols 1 8 [.ints .u32 v.ws]))]) (fun i => i ≤ 8) (fun i => 8 - i) 0
          (St.le_cons rfl (St.le_cons rfl (St.le_cons rfl (St.le_cons rfl (St.le_cons rfl (St.le_nil _)))))) (Nat.zero_le _) fun i hi => ?_
        apply WPA.seq
        apply WPA.region
        · apply Trace.pu [] (.cmp (.plain rfl) (.plain rfl) rfl)
          exact .nil _
        · exact keepOK_of hk hn rfl
        apply WPA.seq
        refine WPA.cond rfl (fun hc4 => ?_) (fun hc4 => ?_)
        · have hlt : i < 8 := by simp at hc4; omega
          have hpl := plusTo_length (s := s) (v := v) (i := i) (by omega)
          apply WPA.skip
          apply WPA.seq
          apply WPA.block
          apply WPA.seq
          apply WPA.region
          · apply Trace.pu [] (.move (.plain rfl))
            apply Trace.pu [] (.assign (.plain rfl))
            exact .nil _
          · exact keepOK_of hk hn rfl
          apply WPA.draw mixed
          · apply Trace.pu [] (.move (.plain rfl))
            apply Trace.pu [] (.move (.plain rfl))
            apply Trace.pu [] (.nilCheck (.plain rfl) rfl)
            first | apply Trace.pu [] (.indexArr ar95 (.plain rfl) (.plain rfl) (fun _ => ⟨by omega, by omega⟩)) | apply Trace.pu [] (.indexLoc ar95 (.plain rfl) (.plain rfl) (fun _ => by decide) rfl)
            apply Trace.pu [_] ((Pure.loadCol1 ty93 (.plain rfl) rfl rfl rfl (fun _ => by omega)).to (y := wv (s.l.getD i 0)) (by exact plus_at (by omega) hlt))
            apply Trace.pu [] (.move (.plain rfl))
            first | apply Trace.pu [] (.indexArr ar95 (.plain rfl) (.plain rfl) (fun _ => ⟨by omega, by omega⟩)) | apply Trace.pu [] (.indexLoc ar95 (.plain rfl) (.plain rfl) (fun _ => by decide) rfl)
            apply Trace.pu [_] ((Pure.loadCol1 ty93 (.plain rfl) rfl rfl rfl (fun _ => by omega)).to (y := wv (v.l.getD i 0)) (by exact ws_at (by omega) hlt))
            apply Trace.pu [] (.wadd (.plain rfl) (.plain rfl))
            apply Trace.pu [] (.nilCheck (.plain rfl) rfl)
            first | apply Trace.pu [] (.indexArr ar95 (.plain rfl) (.plain rfl) (fun _ => ⟨by omega, by omega⟩)) | apply Trace.pu [] (.indexLoc ar95 (.plain rfl) (.plain rfl) (fun _ => by decide) rfl)
            apply Trace.storeRow ty93 (.plain rfl) (.plain rfl) rfl rfl rfl rfl (by decide) (by simp [AV.oneB, single]) rfl (by omega)
            exact .nil _
          · rfl
          · exact keepOK_of hk hn rfl
          apply WPA.region
          · apply Trace.pu [] (.arith (.plain rfl) (.plain rfl) rfl (fun _ => bd64 (by omega)))
            apply Trace.pu [] (.move (.plain rfl))
            exact .nil _
          · exact keepOK_of hk hn rfl
          exact ⟨i + 1, by omega, by omega, St.le_cons rfl (St.le_cons rfl (St.le_cons (iv_eq (by omega)) (St.le_cons (blk_eq (by show Blk.cols 1 8 [.ints .u32 ((plusTo s v i).set (i : Int).toNat (wi _))] = _; rw [Int.toNat_natCast, plusTo_set hlt])) (St.le_cons rfl (St.le_nil _)))))⟩
        · have h8 : i = 8 := by simp at hc4; omega
          subst h8
          apply WPA.exit
          refine ⟨.inl rfl, ⟨_, (.nil), ?_⟩, blks_of (.cons (blk_eq (by rw [V8.blk, hv]; rfl)) .nil)⟩
          rfl

end Go.Proofs.YtmdfamnnnoieaaaDoor


/- digest.Sum. -/
namespace Go.Proofs.YtmdfamnnnoieaaaDoor
open Go
set_option linter.unusedVariables false
set_option linter.unusedSimpArgs false
set_option maxRecDepth 10000
set_option maxHeartbeats 1000000

theorem l_ws {s : V8} {i : Nat} (h : i < 8) : (s.ws.map fun n => D.v (.int .u32 n))[i]? = some (.v (.int .u32 (wi (s.l.getD i 0)))) := by
  match i, h with
  | 0, _ => rfl | 1, _ => rfl | 2, _ => rfl | 3, _ => rfl | 4, _ => rfl | 5, _ => rfl | 6, _ => rfl | 7, _ => rfl
theorem word_u64 (x : W) : IntKind.u64.wrap (wi x) = ((x.toNat : Nat) : Int) := wrap_u64_id (by have := x.isLt; unfold wi; omega)
theorem sa_eq {l n a b c a' b' c' : Nat} (h1 : a = a') (h2 : b = b') (h3 : c = c') : AV.sa l n a b c = .sa l n a' b' c' := by rw [h1, h2, h3]
theorem rows_eq {n n' : Nat} {g g' : Nat → List D} (h : n = n') (h2 : g = g') : some (Cont.av (.d (.rows 1 n g))) = some (Cont.av (.d (.rows 1 n' g'))) := by rw [h, h2]
theorem blk_get {l : List Int} {n j : Nat} (h : j < 64) : ((l.drop n).take 64).getD j 0 = l.getD (n + j) 0 := by
  rw [List.getD_eq_getElem?_getD, List.getD_eq_getElem?_getD, List.getElem?_take, if_pos h, List.getElem?_drop]
theorem drop_get {l : List Int} {n j : Nat} : (l.drop n).getD j 0 = l.getD (n + j) 0 := by
  rw [List.getD_eq_getElem?_getD, List.getD_eq_getElem?_getD, List.getElem?_drop]
/-- soundpost/digest.Sum -/
theorem spec40 (b : List Int) (g : Nat → List D) (hb : b.length ≤ 1000000) (hg : ∀ i, i < b.length → g i = [.v (.int .u8 (b.getD i 0))]) : FnSpec Tryd.prog 40 [.d (.rows 1 b.length g)] [] (.d (byD (sumM b))) [] [] := by
  refine fnSpec_of (rs := [.cell 2 27]) Tryd.func40 rfl rfl (Nat.le_of_ble_eq_true rfl) (by simp [St.get]) fun E hk hn => ?_
  apply WPA.seq
  apply WPA.region
  · apply Trace.alloc 0 [] (.cols 1 32 [.ints .u8 (List.replicate 32 0)]) zo27 (cellsAs_ints 32 .u8 0) rfl
    exact .nil _
  · exact keepOK_of hk hn rfl
  apply WPA.seq
  apply WPA.region
  · apply Trace.pu [] (.loadGlob (.head _) ty94 rfl)
    apply Trace.alloc 1 [] (.data _) zo95 (cellsAs_data _) rfl
    apply Trace.storeD ty95 (.plain rfl) (.plain rfl) rfl rfl rfl (by simp [AV.oneB, single]) (Nat.le_of_ble_eq_true rfl) rfl
    exact .nil _
  · exact keepOK_of hk hn rfl
  apply WPA.seq
  refine WPA.ghost (Ghost.dataCols (l := 1) (n := 8) (col := .ints .u32 hh0.ws) rfl rfl rfl) ?_
  apply WPA.region
  · apply Trace.pu [] (.bound (.cons (.plain rfl) .nil))
    apply Trace.pu [] (.assign (.plain rfl))
    exact .nil _
  · exact keepOK_of hk hn rfl
  apply WPA.seq
  apply WPA.region
  · apply Trace.pu [] (.move (.plain rfl))
    apply Trace.pu [] (.assign (.plain rfl))
    exact .nil _
  · exact keepOK_of hk hn rfl
  apply WPA.seq
  apply WPA.block
  refine WPA.loop (σ := Nat) (fun i => [(sl 0, .av (.d (.rows 1 b.length g))), (sl 2, .av (.loc 0 0)), (sl 3, .av (.loc 1 0)), (sl 4, .av (.bd 55 [.loc 1 0])), (sl 5, .av (.d (.rows 1 (b.length - 64 * i) fun j => g (64 * i + j)))), (bk 0, .blk (.cols 1 32 [.ints .u8 (List.replicate 32 0)])), (bk 1, .blk (.cols 1 8 [.ints .u32 (absN hh0 (padM b) i).ws]))]) (fun i => 64 * i ≤ b.length) (fun i => b.length - i) 0
    (St.le_cons rfl (St.le_cons rfl (St.le_cons rfl (St.le_cons rfl (St.le_cons (rows_eq (by omega) (by funext j; rw [Nat.mul_zero, Nat.zero_add])) (St.le_cons rfl (St.le_cons rfl (St.le_nil _)))))))) (Nat.zero_le _) fun i hi => ?_
  apply WPA.seq
  apply WPA.seq
  apply WPA.region
  · apply Trace.pu [] (.move (.plain rfl))
    apply Trace.pu [] (.len rfl Tryd.underlying54 (.plain rfl) rfl)
    apply Trace.pu [] (.cmp (.plain rfl) (.plain rfl) rfl)
    exact .nil _
  · exact keepOK_of hk hn rfl
  refine WPA.cond rfl (fun hc1 => ?_) (fun hc1 => ?_)
  · have hlt : 64 * i + 64 ≤ b.length := by simp at hc1; omega
    apply WPA.skip
    apply WPA.seq
    apply WPA.block
    apply WPA.region
    · apply Trace.pu [] (.move (.plain rfl))
      apply Trace.pu [] (.move (.plain rfl))
      apply Trace.pu [] (.cutRows so54 (.plain rfl) (.no _) (.to _ (.plain rfl) (fun _ => by decide)) (fun _ => ⟨by omega, by omega⟩))
      apply Trace.cb [] [bk 1] (callArgsB (.plain rfl) (.cons (.plain rfl) .nil)) ((spec55 (absN hh0 (padM b) i) (((padM b).drop (64 * i)).take 64) _ (fun j hj => by show g (64 * i + (0 + j)) = _; rw [hg _ (by omega), blk_get hj, padM_pre (by omega), Nat.zero_add])).as 0 1 rfl rfl rfl rfl rfl rfl rfl) en55 (.cons rfl .nil) rfl rfl
      exact .nil _
    · exact keepOK_of hk hn rfl
    apply WPA.region
    · apply Trace.pu [] (.move (.plain rfl))
      first | apply Trace.pu [] (.cutRows so54 (.plain rfl) (.to _ (.plain rfl) (fun _ => by decide)) (.no _) (fun _ => ⟨by omega, by omega⟩)) | apply Trace.pu [] (.cutOwn so54 (.plain rfl) (.to _ (.plain rfl) (fun _ => by decide)) (.no _) (fun _ => ⟨by omega, by omega⟩)) | apply Trace.pu [] (.cutSl so54 (.plain rfl) (.to _ (.plain rfl) (fun _ => by decide)) (.no _) (fun _ => ⟨by omega, by omega⟩)) | apply Trace.pu [] (.cutSa so54 (.plain rfl) (.to _ (.plain rfl) (fun _ => by decide)) (.no _) (fun _ => ⟨by omega, by omega, by omega⟩))
      apply Trace.pu [] (.assign (.plain rfl))
      exact .nil _
    · exact keepOK_of hk hn rfl
    exact ⟨i + 1, by omega, by omega, St.le_cons rfl (St.le_cons rfl (St.le_cons rfl (St.le_cons rfl (St.le_cons (rows_eq (by omega) (by funext j; congr 1; omega)) (St.le_cons rfl (St.le_cons rfl (St.le_nil _)))))))⟩
  · have hend : b.length - 64 * i < 64 := by simp at hc1; omega
    obtain ⟨ys, hys⟩ : ∃ ys, b.drop (64 * i) = ys := ⟨_, rfl⟩
    have hyl : ys.length = b.length - 64 * i := by rw [← hys]; simp
    apply WPA.exit
    apply WPA.seq
    apply WPA.region
    · apply Trace.makeSa 5 [] so54 by5 zo5 rfl (by decide) (.plain rfl) (.plain rfl) ⟨by decide, by decide⟩ (by decide) (by decide) (cs := [.ints .u8 (List.replicate 128 0)]) rfl rfl
      apply Trace.pu [] (.assign (.plain rfl))
      exact .nil _
    · exact keepOK_of hk hn rfl
    apply WPA.seq
    refine WPA.weaken (T := [(sl 0, .av (.d (.rows 1 b.length g))), (sl 2, .av (.loc 0 0)), (sl 3, .av (.loc 1 0)), (sl 4, .av (.bd 55 [.loc 1 0])), (sl 5, .av (.d (.rows 1 (b.length - 64 * i) fun j => g (64 * i + j)))), (sl 6, .av (.sa 5 1 0 64 128)), (bk 0, .blk (.cols 1 32 [.ints .u8 (List.replicate 32 0)])), (bk 1, .blk (.cols 1 8 [.ints .u32 (absN hh0 (padM b) i).ws])), (bk 5, .blk (.cols 1 128 [.ints .u8 (List.replicate 128 0)]))]) ?_ (St.le_cons rfl (St.le_cons rfl (St.le_cons rfl (St.le_cons rfl (St.le_cons rfl (St.le_cons rfl (St.le_cons rfl (St.le_cons rfl (St.le_cons rfl (St.le_nil _))))))))))
    apply WPA.region
    · apply Trace.pu [] (.move (.plain rfl))
      apply Trace.pu [] (.move (.plain rfl))
      apply Trace.copy (n := ys.length) (ys := ys) (zs := ys ++ List.replicate (128 - ys.length) 0) so54 (.plain rfl) rfl (.rows (.plain rfl) (by omega) (fun j hj => by rw [hg _ (by omega), ← hys]; simp [List.getD_eq_getElem?_getD])) (by omega) (by omega) (copy_eq (by omega))
      exact .nil _
    · exact keepOK_of hk hn rfl
    apply WPA.seq
    apply WPA.region
    · apply Trace.pu [] (.move (.plain rfl))
      apply Trace.pu [] (.move (.plain rfl))
      apply Trace.pu [] (.len rfl Tryd.underlying54 (.plain rfl) rfl)
      apply Trace.pu [] ((Pure.indexSa el54 (.plain rfl) (.plain rfl) (fun _ => ⟨by omega, by omega⟩)).to (y := .locr 5 1 ys.length 0) (by congr 1; omega))
      apply Trace.storeRow ty5 (.plain rfl) (.plain rfl) rfl rfl rfl rfl (by decide) (by simp [AV.oneB, single]) rfl (by omega)
      exact .nil _
    · exact keepOK_of hk hn rfl
    apply WPA.seq
    apply WPA.seq
    apply WPA.region
    · apply Trace.pu [] (.move (.plain rfl))
      apply Trace.pu [] (.len rfl Tryd.underlying54 (.plain rfl) rfl)
      apply Trace.pu [] (.cmp (.plain rfl) (.plain rfl) rfl)
      exact .nil _
    · exact keepOK_of hk hn rfl
    refine WPA.cond rfl (fun hc2 => ?_) (fun hc2 => ?_)
    · have hln : ∃ ln : Nat, (ln = 64 ∨ ln = 128) ∧ 128 = ln ∧ (padM b).length = 64 * i + ln := ⟨128, .inr rfl, rfl, pad_long hi (by simp at hc2; omega) hend⟩
      apply WPA.region
      · apply Trace.pu [] (.move (.plain rfl))
        apply Trace.pu [] ((Pure.cutSa so54 (.plain rfl) (.no _) (.to _ (.plain rfl) (fun _ => by decide)) (fun _ => ⟨by decide, by decide, by decide⟩)).to (y := .sa 5 1 0 128 128) rfl)
        apply Trace.pu [] (.assign (.plain rfl))
        exact .nil _
      · exact keepOK_of hk hn rfl
      apply WPA.seq
      obtain ⟨ln, hln0, hln1, hln2⟩ := hln
      refine WPA.weaken (T := [(sl 0, .av (.d (.rows 1 b.length g))), (sl 2, .av (.loc 0 0)), (sl 3, .av (.loc 1 0)), (sl 4, .av (.bd 55 [.loc 1 0])), (sl 5, .av (.d (.rows 1 (b.length - 64 * i) fun j => g (64 * i + j)))), (sl 6, .av (.sa 5 1 0 ln 128)), (bk 0, .blk (.cols 1 32 [.ints .u8 (List.replicate 32 0)])), (bk 1, .blk (.cols 1 8 [.ints .u32 (absN hh0 (padM b) i).ws])), (bk 5, .blk (.cols 1 128 [.ints .u8 (ys ++ 128 :: List.replicate (127 - ys.length) 0)]))]) ?_ (St.le_cons rfl (St.le_cons rfl (St.le_cons rfl (St.le_cons rfl (St.le_cons rfl (St.le_cons (by rw [← hln1]; rfl) (St.le_cons rfl (St.le_cons rfl (St.le_cons (blk_eq (by show Blk.cols 1 128 [.ints .u8 ((ys ++ List.replicate (128 - ys.length) 0).set ys.length 128)] = _; rw [mark_eq (by omega)])) (St.le_nil _))))))))))
      apply WPA.region
      · apply Trace.pu [] (.move (.plain rfl))
        apply Trace.pu [] (.move (.plain rfl))
        apply Trace.pu [] (.len rfl Tryd.underlying54 (.plain rfl) rfl)
        apply Trace.pu [] ((Pure.arith (.plain rfl) (.plain rfl) rfl (fun _ => bd64 (by omega))).to (y := iv .i64 ((ln - 8 : Nat) : Int)) (congrArg (fun n => iv .i64 n) (by omega)))
        apply Trace.pu [] ((Pure.cutSa so54 (.plain rfl) (.to _ (.plain rfl) (fun _ => by omega)) (.no _) (fun _ => ⟨by omega, by omega, by omega⟩)).to (y := .sa 5 1 (ln - 8) 8 (136 - ln)) (sa_eq (by omega) (by omega) (by omega)))
        apply Trace.pu [] (.move (.plain rfl))
        apply Trace.pu [] (.len rfl Tryd.underlying54 (.plain rfl) rfl)
        apply Trace.pu [] ((Pure.conv Tryd.underlying3 Tryd.underlying91 (.plain rfl)).to (y := iv .u64 ((b.length : Nat) : Int)) (by rw [wrap_u64_id (by omega)]))
        apply Trace.pu [] ((Pure.arithW (.plain rfl) (.plain rfl) rfl).to (y := iv .u64 ((8 * b.length : Nat) : Int)) (congrArg (fun n => iv .u64 n) (by rw [wrap_u64_id (by omega)]; omega)))
        apply Trace.cb [] [bk 5] (callArgs0 (.cons (.plain rfl) (.cons (.plain rfl) .nil))) ((spec56 (ys ++ 128 :: List.replicate (127 - ys.length) 0) 128 (ln - 8) 8 (136 - ln) (8 * b.length) (by simp; omega) (by omega) (by omega) (by omega) (by decide)).as 0 5 rfl rfl rfl rfl rfl rfl rfl) en56 (.cons rfl .nil) rfl rfl
        exact .nil _
      · exact keepOK_of hk hn rfl
      apply WPA.seq
      apply WPA.block
      have hbuf := buf_eq hi hend hln2 (by omega)
      rw [hys] at hbuf
      refine WPA.ghost (Ghost.freezeSa (t := 6) (l := 5) (lo := 0) (g := fun j => [.v (.int .u8 (((padM b).drop (64 * i)).getD j 0))]) rfl rfl (by omega) (fun j hj => by
        rw [hbuf, Nat.zero_add, List.getD_eq_getElem?_getD, List.getD_eq_getElem?_getD, List.getElem?_append_left (by rw [List.length_drop]; omega)])) ?_
      refine WPA.loop (σ := Nat) (fun m => [(sl 2, .av (.loc 0 0)), (sl 3, .av (.loc 1 0)), (sl 4, .av (.bd 55 [.loc 1 0])), (sl 6, .av (.d (.rows 1 (ln - 64 * m) fun j => [.v (.int .u8 (((padM b).drop (64 * i)).getD (64 * m + j) 0))]))), (bk 0, .blk (.cols 1 32 [.ints .u8 (List.replicate 32 0)])), (bk 1, .blk (.cols 1 8 [.ints .u32 (absN hh0 (padM b) (i + m)).ws]))]) (fun m => 64 * m ≤ ln) (fun m => ln - m) 0
        (St.le_cons rfl (St.le_cons rfl (St.le_cons rfl (St.le_cons (rows_eq (by omega) (by funext j; rw [Nat.mul_zero, Nat.zero_add])) (St.le_cons rfl (St.le_cons rfl (St.le_nil _))))))) (Nat.zero_le _) fun m hm => ?_
      apply WPA.seq
      apply WPA.seq
      apply WPA.region
      · apply Trace.pu [] (.move (.plain rfl))
        apply Trace.pu [] (.len rfl Tryd.underlying54 (.plain rfl) rfl)
        apply Trace.pu [] (.cmp (.plain rfl) (.plain rfl) rfl)
        exact .nil _
      · exact keepOK_of hk hn rfl
      refine WPA.cond rfl (fun hc3 => ?_) (fun hc3 => ?_)
      · have hlt : 64 * m + 64 ≤ ln := by simp at hc3; omega
        apply WPA.skip
        apply WPA.seq
        apply WPA.block
        apply WPA.region
        · apply Trace.pu [] (.move (.plain rfl))
          apply Trace.pu [] (.move (.plain rfl))
          apply Trace.pu [] (.cutRows so54 (.plain rfl) (.no _) (.to _ (.plain rfl) (fun _ => by decide)) (fun _ => ⟨by omega, by omega⟩))
          apply Trace.cb [] [bk 1] (callArgsB (.plain rfl) (.cons (.plain rfl) .nil)) ((spec55 (absN hh0 (padM b) (i + m)) (((padM b).drop (64 * (i + m))).take 64) _ (fun j hj => by show [D.v (.int .u8 (((padM b).drop (64 * i)).getD (64 * m + (0 + j)) 0))] = _; rw [blk_get hj, drop_get]; congr 4; omega)).as 0 1 rfl rfl rfl rfl rfl rfl rfl) en55 (.cons rfl .nil) rfl rfl
          exact .nil _
        · exact keepOK_of hk hn rfl
        apply WPA.region
        · apply Trace.pu [] (.move (.plain rfl))
          first | apply Trace.pu [] (.cutRows so54 (.plain rfl) (.to _ (.plain rfl) (fun _ => by decide)) (.no _) (fun _ => ⟨by omega, by omega⟩)) | apply Trace.pu [] (.cutOwn so54 (.plain rfl) (.to _ (.plain rfl) (fun _ => by decide)) (.no _) (fun _ => ⟨by omega, by omega⟩)) | apply Trace.pu [] (.cutSl so54 (.plain rfl) (.to _ (.plain rfl) (fun _ => by decide)) (.no _) (fun _ => ⟨by omega, by omega⟩)) | apply Trace.pu [] (.cutSa so54 (.plain rfl) (.to _ (.plain rfl) (fun _ => by decide)) (.no _) (fun _ => ⟨by omega, by omega, by omega⟩))
          apply Trace.pu [] (.assign (.plain rfl))
          exact .nil _
        · exact keepOK_of hk hn rfl
        exact ⟨m + 1, by omega, by omega, St.le_cons rfl (St.le_cons rfl (St.le_cons rfl (St.le_cons (rows_eq (by omega) (by funext j; congr 4; omega)) (St.le_cons rfl (St.le_cons rfl (St.le_nil _))))))⟩
      · have hend2 : 64 * m = ln := by simp at hc3; omega
        have hk64 : i + m = (padM b).length / 64 := by omega
        apply WPA.exit
        apply WPA.seq
        apply WPA.seq
        obtain ⟨s, hs⟩ : ∃ s, absN hh0 (padM b) (i + m) = s := ⟨_, rfl⟩
        rw [hs]
        apply WPA.region
        · apply Trace.pu [_] ((Pure.loadArr ty95 (.plain rfl) rfl).to (y := .d (.agg (s.ws.map fun n => .v (.int .u32 n)))) rfl)
          apply Trace.pu [] (.move (.plain rfl))
          exact .nil _
        · exact keepOK_of hk hn rfl
        apply WPA.block
        refine WPA.loop (σ := Nat) (fun q => [(sl 2, .av (.loc 0 0)), (sl 53, .av (.d (.agg (s.ws.map fun n => .v (.int .u32 n))))), (sl 54, .av (iv .i64 (q))), (bk 0, .blk (.cols 1 32 [.ints .u8 (outTo s q)]))]) (fun q => q ≤ 8) (fun q => 8 - q) 0
          (St.le_cons rfl (St.le_cons rfl (St.le_cons rfl (St.le_cons rfl (St.le_nil _))))) (Nat.zero_le _) fun q hq => ?_
        apply WPA.seq
        apply WPA.region
        · apply Trace.pu [] (.cmp (.plain rfl) (.plain rfl) rfl)
          exact .nil _
        · exact keepOK_of hk hn rfl
        apply WPA.seq
        refine WPA.cond rfl (fun hc4 => ?_) (fun hc4 => ?_)
        · have hlt : q < 8 := by simp at hc4; omega
          apply WPA.skip
          apply WPA.seq
          apply WPA.block
          apply WPA.seq
          apply WPA.region
          · apply Trace.pu [] (.move (.plain rfl))
            apply Trace.pu [] (.index1 ar95 rfl (.plain rfl) (.plain rfl) (fun _ => ⟨by omega, by omega⟩) (r := .v (.int .u32 (wi (s.l.getD q 0)))) (fun _ => by rw [Int.toNat_natCast]; exact l_ws hlt))
            apply Trace.pu [] (.assign (.plain rfl))
            apply Trace.pu [] (.assign (.plain rfl))
            exact .nil _
          · exact keepOK_of hk hn rfl
          apply WPA.region
          · apply Trace.pu [] (.move (.plain rfl))
            apply Trace.pu [] (.arith (.plain rfl) (.plain rfl) rfl (fun _ => bd64 (by omega)))
            apply Trace.pu [] (.move (.plain rfl))
            apply Trace.pu [] (.arith (.plain rfl) (.plain rfl) rfl (fun _ => bd64 (by omega)))
            apply Trace.pu [] (.arith (.plain rfl) (.plain rfl) rfl (fun _ => bd64 (by omega)))
            apply Trace.pu [] ((Pure.sliceArr ar27 (.plain rfl) (.to _ (.plain rfl) (fun _ => by omega)) (.to _ (.plain rfl) (fun _ => by omega)) (fun _ => ⟨by omega, by omega, by omega⟩)).to (y := .sa 0 1 (4 * q) 4 (32 - 4 * q)) (sa_eq (by omega) (by omega) (by omega)))
            apply Trace.pu [] (.move (.plain rfl))
            apply Trace.pu [] ((Pure.conv Tryd.underlying93 Tryd.underlying91 (.plain rfl)).to (y := iv .u64 (((s.l.getD q 0).toNat : Nat) : Int)) (congrArg (fun n => iv .u64 n) (word_u64 _)))
            apply Trace.cb [] [bk 0] (callArgs0 (.cons (.plain rfl) (.cons (.plain rfl) .nil))) (spec56 (outTo s q) 32 (4 * q) 4 (32 - 4 * q) (s.l.getD q 0).toNat (outTo_length (by omega)) (by omega) (by omega) (by omega) (by decide)) en56 (.cons rfl .nil) rfl rfl
            exact .nil _
          · exact keepOK_of hk hn rfl
          apply WPA.region
          · apply Trace.pu [] (.arith (.plain rfl) (.plain rfl) rfl (fun _ => bd64 (by omega)))
            apply Trace.pu [] (.move (.plain rfl))
            exact .nil _
          · exact keepOK_of hk hn rfl
          exact ⟨q + 1, by omega, by omega, St.le_cons rfl (St.le_cons rfl (St.le_cons (iv_eq (by omega)) (St.le_cons (blk_eq (by rw [← outTo_step hlt])) (St.le_nil _))))⟩
        · have h8 : q = 8 := by simp at hc4; omega
          subst h8
          apply WPA.exit
          apply WPA.seq
          rw [outTo_all]
          refine WPA.ghost (Ghost.colsData (l := 0) rfl) ?_
          apply WPA.region
          · apply Trace.pu [_] (.loadAllD ty27 (.plain rfl) rfl (by simp [outB_length]))
            apply Trace.storeD ty27 (.plain rfl) (.plain rfl) rfl rfl (by simp [outB_length]) (by simp [AV.oneB, single]) (by simp [outB_length]) (spliceL_all rfl)
            exact .nil _
          · exact keepOK_of hk hn rfl
          apply WPA.ret
          refine ⟨.inr rfl, ⟨_, (.cons (.cellD rfl rfl ty27 (by simp [outB_length])) .nil), ?_⟩, by simp [St.get]⟩
          show AV.d _ = AV.d _
          rw [sumM, ← hk64, hs]
    · have hln : ∃ ln : Nat, (ln = 64 ∨ ln = 128) ∧ 64 = ln ∧ (padM b).length = 64 * i + ln := ⟨64, .inl rfl, rfl, pad_short hi (by simp at hc2; omega)⟩
      apply WPA.skip
      apply WPA.seq
      obtain ⟨ln, hln0, hln1, hln2⟩ := hln
      refine WPA.weaken (T := [(sl 0, .av (.d (.rows 1 b.length g))), (sl 2, .av (.loc 0 0)), (sl 3, .av (.loc 1 0)), (sl 4, .av (.bd 55 [.loc 1 0])), (sl 5, .av (.d (.rows 1 (b.length - 64 * i) fun j => g (64 * i + j)))), (sl 6, .av (.sa 5 1 0 ln 128)), (bk 0, .blk (.cols 1 32 [.ints .u8 (List.replicate 32 0)])), (bk 1, .blk (.cols 1 8 [.ints .u32 (absN hh0 (padM b) i).ws])), (bk 5, .blk (.cols 1 128 [.ints .u8 (ys ++ 128 :: List.replicate (127 - ys.length) 0)]))]) ?_ (St.le_cons rfl (St.le_cons rfl (St.le_cons rfl (St.le_cons rfl (St.le_cons rfl (St.le_cons (by rw [← hln1]; rfl) (St.le_cons rfl (St.le_cons rfl (St.le_cons (blk_eq (by show Blk.cols 1 128 [.ints .u8 ((ys ++ List.replicate (128 - ys.length) 0).set ys.length 128)] = _; rw [mark_eq (by omega)])) (St.le_nil _))))))))))
      apply WPA.region
      · apply Trace.pu [] (.move (.plain rfl))
        apply Trace.pu [] (.move (.plain rfl))
        apply Trace.pu [] (.len rfl Tryd.underlying54 (.plain rfl) rfl)
        apply Trace.pu [] ((Pure.arith (.plain rfl) (.plain rfl) rfl (fun _ => bd64 (by omega))).to (y := iv .i64 ((ln - 8 : Nat) : Int)) (congrArg (fun n => iv .i64 n) (by omega)))
        apply Trace.pu [] ((Pure.cutSa so54 (.plain rfl) (.to _ (.plain rfl) (fun _ => by omega)) (.no _) (fun _ => ⟨by omega, by omega, by omega⟩)).to (y := .sa 5 1 (ln - 8) 8 (136 - ln)) (sa_eq (by omega) (by omega) (by omega)))
        apply Trace.pu [] (.move (.plain rfl))
        apply Trace.pu [] (.len rfl Tryd.underlying54 (.plain rfl) rfl)
        apply Trace.pu [] ((Pure.conv Tryd.underlying3 Tryd.underlying91 (.plain rfl)).to (y := iv .u64 ((b.length : Nat) : Int)) (by rw [wrap_u64_id (by omega)]))
        apply Trace.pu [] ((Pure.arithW (.plain rfl) (.plain rfl) rfl).to (y := iv .u64 ((8 * b.length : Nat) : Int)) (congrArg (fun n => iv .u64 n) (by rw [wrap_u64_id (by omega)]; omega)))
        apply Trace.cb [] [bk 5] (callArgs0 (.cons (.plain rfl) (.cons (.plain rfl) .nil))) ((spec56 (ys ++ 128 :: List.replicate (127 - ys.length) 0) 128 (ln - 8) 8 (136 - ln) (8 * b.length) (by simp; omega) (by omega) (by omega) (by omega) (by decide)).as 0 5 rfl rfl rfl rfl rfl rfl rfl) en56 (.cons rfl .nil) rfl rfl
        exact .nil _
      · exact keepOK_of hk hn rfl
      apply WPA.seq
      apply WPA.block
      have hbuf := buf_eq hi hend hln2 (by omega)
      rw [hys] at hbuf
      refine WPA.ghost (Ghost.freezeSa (t := 6) (l := 5) (lo := 0) (g := fun j => [.v (.int .u8 (((padM b).drop (64 * i)).getD j 0))]) rfl rfl (by omega) (fun j hj => by
        rw [hbuf, Nat.zero_add, List.getD_eq_getElem?_getD, List.getD_eq_getElem?_getD, List.getElem?_append_left (by rw [List.length_drop]; omega)])) ?_
      refine WPA.loop (σ := Nat) (fun m => [(sl 2, .av (.loc 0 0)), (sl 3, .av (.loc 1 0)), (sl 4, .av (.bd 55 [.loc 1 0])), (sl 6, .av (.d (.rows 1 (ln - 64 * m) fun j => [.v (.int .u8 (((padM b).drop (64 * i)).getD (64 * m + j) 0))]))), (bk 0, .blk (.cols 1 32 [.ints .u8 (List.replicate 32 0)])), (bk 1, .blk (.cols 1 8 [.ints .u32 (absN hh0 (padM b) (i + m)).ws]))]) (fun m => 64 * m ≤ ln) (fun m => ln - m) 0
        (St.le_cons rfl (St.le_cons rfl (St.le_cons rfl (St.le_cons (rows_eq (by omega) (by funext j; rw [Nat.mul_zero, Nat.zero_add])) (St.le_cons rfl (St.le_cons rfl (St.le_nil _))))))) (Nat.zero_le _) fun m hm => ?_
      apply WPA.seq
      apply WPA.seq
      apply WPA.region
      · apply Trace.pu [] (.move (.plain rfl))
        apply Trace.pu [] (.len rfl Tryd.underlying54 (.plain rfl) rfl)
        apply Trace.pu [] (.cmp (.plain rfl) (.plain rfl) rfl)
        exact .nil _
      · exact keepOK_of hk hn rfl
      refine WPA.cond rfl (fun hc5 => ?_) (fun hc5 => ?_)
      · have hlt : 64 * m + 64 ≤ ln := by simp at hc5; omega
        apply WPA.skip
        apply WPA.seq
        apply WPA.block
        apply WPA.region
        · apply Trace.pu [] (.move (.plain rfl))
          apply Trace.pu [] (.move (.plain rfl))
          apply Trace.pu [] (.cutRows so54 (.plain rfl) (.no _) (.to _ (.plain rfl) (fun _ => by decide)) (fun _ => ⟨by omega, by omega⟩))
          apply Trace.cb [] [bk 1] (callArgsB (.plain rfl) (.cons (.plain rfl) .nil)) ((spec55 (absN hh0 (padM b) (i + m)) (((padM b).drop (64 * (i + m))).take 64) _ (fun j hj => by show [D.v (.int .u8 (((padM b).drop (64 * i)).getD (64 * m + (0 + j)) 0))] = _; rw [blk_get hj, drop_get]; congr 4; omega)).as 0 1 rfl rfl rfl rfl rfl rfl rfl) en55 (.cons rfl .nil) rfl rfl
          exact .nil _
        · exact keepOK_of hk hn rfl
        apply WPA.region
        · apply Trace.pu [] (.move (.plain rfl))
          first | apply Trace.pu [] (.cutRows so54 (.plain rfl) (.to _ (.plain rfl) (fun _ => by decide)) (.no _) (fun _ => ⟨by omega, by omega⟩)) | apply Trace.pu [] (.cutOwn so54 (.plain rfl) (.to _ (.plain rfl) (fun _ => by decide)) (.no _) (fun _ => ⟨by omega, by omega⟩)) | apply Trace.pu [] (.cutSl so54 (.plain rfl) (.to _ (.plain rfl) (fun _ => by decide)) (.no _) (fun _ => ⟨by omega, by omega⟩)) | apply Trace.pu [] (.cutSa so54 (.plain rfl) (.to _ (.plain rfl) (fun _ => by decide)) (.no _) (fun _ => ⟨by omega, by omega, by omega⟩))
          apply Trace.pu [] (.assign (.plain rfl))
          exact .nil _
        · exact keepOK_of hk hn rfl
        exact ⟨m + 1, by omega, by omega, St.le_cons rfl (St.le_cons rfl (St.le_cons rfl (St.le_cons (rows_eq (by omega) (by funext j; congr 4; omega)) (St.le_cons rfl (St.le_cons rfl (St.le_nil _))))))⟩
      · have hend2 : 64 * m = ln := by simp at hc5; omega
        have hk64 : i + m = (padM b).length / 64 := by omega
        apply WPA.exit
        apply WPA.seq
        apply WPA.seq
        obtain ⟨s, hs⟩ : ∃ s, absN hh0 (padM b) (i + m) = s := ⟨_, rfl⟩
        rw [hs]
        apply WPA.region
        · apply Trace.pu [_] ((Pure.loadArr ty95 (.plain rfl) rfl).to (y := .d (.agg (s.ws.map fun n => .v (.int .u32 n)))) rfl)
          apply Trace.pu [] (.move (.plain rfl))
          exact .nil _
        · exact keepOK_of hk hn rfl
        apply WPA.block
        refine WPA.loop (σ := Nat) (fun q => [(sl 2, .av (.loc 0 0)), (sl 53, .av (.d (.agg (s.ws.map fun n => .v (.int .u32 n))))), (sl 54, .av (iv .i64 (q))), (bk 0, .blk (.cols 1 32 [.ints .u8 (outTo s q)]))]) (fun q => q ≤ 8) (fun q => 8 - q) 0
          (St.le_cons rfl (St.le_cons rfl (St.le_cons rfl (St.le_cons rfl (St.le_nil _))))) (Nat.zero_le _) fun q hq => ?_
        apply WPA.seq
        apply WPA.region
        · apply Trace.pu [] (.cmp (.plain rfl) (.plain rfl) rfl)
          exact .nil _
        · exact keepOK_of hk hn rfl
        apply WPA.seq
        refine WPA.cond rfl (fun hc6 => ?_) (fun hc6 => ?_)
        · have hlt : q < 8 := by simp at hc6; omega
          apply WPA.skip
          apply WPA.seq
          apply WPA.block
          apply WPA.seq
          apply WPA.region
          · apply Trace.pu [] (.move (.plain rfl))
            apply Trace.pu [] (.index1 ar95 rfl (.plain rfl) (.plain rfl) (fun _ => ⟨by omega, by omega⟩) (r := .v (.int .u32 (wi (s.l.getD q 0)))) (fun _ => by rw [Int.toNat_natCast]; exact l_ws hlt))
            apply Trace.pu [] (.assign (.plain rfl))
            apply Trace.pu [] (.assign (.plain rfl))
            exact .nil _
          · exact keepOK_of hk hn rfl
          apply WPA.region
          · apply Trace.pu [] (.move (.plain rfl))
            apply Trace.pu [] (.arith (.plain rfl) (.plain rfl) rfl (fun _ => bd64 (by omega)))
            apply Trace.pu [] (.move (.plain rfl))
            apply Trace.pu [] (.arith (.plain rfl) (.plain rfl) rfl (fun _ => bd64 (by omega)))
            apply Trace.pu [] (.arith (.plain rfl) (.plain rfl) rfl (fun _ => bd64 (by omega)))
            apply Trace.pu [] ((Pure.sliceArr ar27 (.plain rfl) (.to _ (.plain rfl) (fun _ => by omega)) (.to _ (.plain rfl) (fun _ => by omega)) (fun _ => ⟨by omega, by omega, by omega⟩)).to (y := .sa 0 1 (4 * q) 4 (32 - 4 * q)) (sa_eq (by omega) (by omega) (by omega)))
            apply Trace.pu [] (.move (.plain rfl))
            apply Trace.pu [] ((Pure.conv Tryd.underlying93 Tryd.underlying91 (.plain rfl)).to (y := iv .u64 (((s.l.getD q 0).toNat : Nat) : Int)) (congrArg (fun n => iv .u64 n) (word_u64 _)))
            apply Trace.cb [] [bk 0] (callArgs0 (.cons (.plain rfl) (.cons (.plain rfl) .nil))) (spec56 (outTo s q) 32 (4 * q) 4 (32 - 4 * q) (s.l.getD q 0).toNat (outTo_length (by omega)) (by omega) (by omega) (by omega) (by decide)) en56 (.cons rfl .nil) rfl rfl
            exact .nil _
          · exact keepOK_of hk hn rfl
          apply WPA.region
          · apply Trace.pu [] (.arith (.plain rfl) (.plain rfl) rfl (fun _ => bd64 (by omega)))
            apply Trace.pu [] (.move (.plain rfl))
            exact .nil _
          · exact keepOK_of hk hn rfl
          exact ⟨q + 1, by omega, by omega, St.le_cons rfl (St.le_cons rfl (St.le_cons (iv_eq (by omega)) (St.le_cons (blk_eq (by rw [← outTo_step hlt])) (St.le_nil _))))⟩
        · have h8 : q = 8 := by simp at hc6; omega
          subst h8
          apply WPA.exit
          apply WPA.seq
          rw [outTo_all]
          refine WPA.ghost (Ghost.colsData (l := 0) rfl) ?_
          apply WPA.region
          · apply Trace.pu [_] (.loadAllD ty27 (.plain rfl) rfl (by simp [outB_length]))
            apply Trace.storeD ty27 (.plain rfl) (.plain rfl) rfl rfl (by simp [outB_length]) (by simp [AV.oneB, single]) (by simp [outB_length]) (spliceL_all rfl)
            exact .nil _
          · exact keepOK_of hk hn rfl
          apply WPA.ret
          refine ⟨.inr rfl, ⟨_, (.cons (.cellD rfl rfl ty27 (by simp [outB_length])) .nil), ?_⟩, by simp [St.get]⟩
          show AV.d _ = AV.d _
          rw [sumM, ← hk64, hs]

end Go.Proofs.YtmdfamnnnoieaaaDoor


/- The encoding of a value, as a list of bytes. Plain Lean, no program in sight. -/
namespace Go.Proofs.YtmdfamnnnoieaaaDoor
open Go

def bytesI (s : ByteArray) : List Int := s.data.toList.map fun b => (b.toNat : Int)
theorem bytesI_length (s : ByteArray) : (bytesI s).length = s.size := by simp [bytesI]
mutual
def Val.enc : Val → List Int
  | .mk k n s l => if k = 1 then 1 :: dig (zig n) else if k = 2 then 2 :: (dig s.size ++ bytesI s) else 3 :: (dig l.length ++ Val.encs l)
def Val.encs : List Val → List Int
  | [] => []
  | x :: r => x.enc ++ Val.encs r
end
theorem Val.encs_append (l m : List Val) : Val.encs (l ++ m) = Val.encs l ++ Val.encs m := by
  induction l with
  | nil => simp [Val.encs]
  | cons x r ih => simp [Val.encs, ih]
theorem Val.encs_take (l : List Val) (i : Nat) (h : i < l.length) : Val.encs (l.take (i + 1)) = Val.encs (l.take i) ++ (l[i]).enc := by
  rw [take_succ' l i h, Val.encs_append]; simp [Val.encs]
theorem Val.encs_split (l : List Val) (i : Nat) : Val.encs l = Val.encs (l.take i) ++ Val.encs (l.drop i) := by
  rw [← Val.encs_append, List.take_append_drop]
theorem Val.enc_int (n : Int) (s : ByteArray) (l : List Val) : (Val.mk 1 n s l).enc = 1 :: dig (zig n) := by simp [Val.enc]
theorem Val.enc_text (n : Int) (s : ByteArray) (l : List Val) : (Val.mk 2 n s l).enc = 2 :: (dig s.size ++ bytesI s) := by simp [Val.enc]
theorem Val.enc_list (n : Int) (s : ByteArray) (l : List Val) : (Val.mk 3 n s l).enc = 3 :: (dig l.length ++ Val.encs l) := by simp [Val.enc]
theorem Val.kind_of {k n : Int} {s : ByteArray} {l : List Val} (h : (Val.mk k n s l).formed = true) : k = 1 ∨ k = 2 ∨ k = 3 := by
  rw [Val.formed_eq] at h
  by_cases h1 : k = 1
  · exact .inl h1
  · by_cases h2 : k = 2
    · exact .inr (.inl h2)
    · by_cases h3 : k = 3
      · exact .inr (.inr h3)
      · simp [h1, h2, h3] at h
theorem Val.formed_list {n : Int} {s : ByteArray} {l : List Val} (h : (Val.mk 3 n s l).formed = true) : n = 0 ∧ s = ⟨#[]⟩ ∧ Val.formeds l = true := by
  rw [Val.formed_eq] at h
  simpa [and_assoc] using h

end Go.Proofs.YtmdfamnnnoieaaaDoor

/- slices.Grow, slices.Concat, digest.Tagged. -/
namespace Go.Proofs.YtmdfamnnnoieaaaDoor
open Go
set_option linter.unusedVariables false
set_option linter.unusedSimpArgs false
set_option maxRecDepth 10000
set_option maxHeartbeats 1000000

theorem own_st {l m n : Nat} (h : m = n) : some (Cont.av (AV.own l m)) = some (Cont.av (.own l n)) := by rw [h]
/-- slices.Grow[[]byte,byte] -/
theorem spec57 (n : Nat) (h0 : 0 < n) (h1 : n ≤ 1000000) : FnSpec Tryd.prog 57 [nilS, iv .i64 n] [] (.own 0 0) [(bk 0, .blk (.app 1 0 [.ints .u8 []]))] [] := by
  refine fnSpec_of (rs := [.tmp 4]) Tryd.func57 rfl rfl (Nat.le_of_ble_eq_true rfl) (by simp [St.get]) fun E hk hn => ?_
  apply WPA.seq
  apply WPA.region
  · apply Trace.pu [] (.assign (.plain rfl))
    exact .nil _
  · exact keepOK_of hk hn rfl
  apply WPA.seq
  apply WPA.seq
  apply WPA.region
  · apply Trace.pu [] (.move (.plain rfl))
    apply Trace.pu [] (.cmp (.plain rfl) (.plain rfl) rfl)
    exact .nil _
  · exact keepOK_of hk hn rfl
  refine WPA.cond rfl (fun hc1 => ?_) (fun hc1 => ?_)
  · simp at hc1; omega
  · apply WPA.skip
    apply WPA.seq
    apply WPA.seq
    apply WPA.region
    · apply Trace.pu [] (.move (.plain rfl))
      apply Trace.pu [] (.move (.plain rfl))
      apply Trace.pu [] (.capNil rfl Tryd.underlying54 (.plain rfl))
      apply Trace.pu [] (.move (.plain rfl))
      apply Trace.pu [] (.len rfl Tryd.underlying54 (.plain rfl) rfl)
      apply Trace.pu [] (.arith (.plain rfl) (.plain rfl) rfl (fun _ => bd64 (by omega)))
      apply Trace.pu [] (.arith (.plain rfl) (.plain rfl) rfl (fun _ => bd64 (by omega)))
      apply Trace.pu [] (.assign (.plain rfl))
      exact .nil _
    · exact keepOK_of hk hn rfl
    apply WPA.seq
    apply WPA.region
    · apply Trace.pu [] (.move (.plain rfl))
      apply Trace.pu [] (.cmp (.plain rfl) (.plain rfl) rfl)
      exact .nil _
    · exact keepOK_of hk hn rfl
    refine WPA.cond rfl (fun hc2 => ?_) (fun hc2 => ?_)
    · apply WPA.region
      · apply Trace.pu [] (.move (.plain rfl))
        apply Trace.pu [] (.move (.plain rfl))
        apply Trace.pu [] (.capNil rfl Tryd.underlying54 (.plain rfl))
        apply Trace.pu [] (.cutNil so54 (.plain rfl) (.no _) (.to _ (.plain rfl) (fun _ => by decide)) rfl rfl)
        apply Trace.pu [] (.move (.plain rfl))
        apply Trace.appendMake 0 [] ap54 (fun e he => by rw [Tryd.underlying54] at he; cases he; exact zo5) Tryd.underlying3 rfl (by decide) (.plain rfl) (.plain rfl) (by omega) (by omega) (by omega) (cs := [.ints .u8 (List.replicate n 0)]) (by show [Col.ints .u8 (List.replicate _ 0)] = _; congr 3) rfl
        apply Trace.pu [] (.move (.plain rfl))
        apply Trace.pu [] (.len rfl Tryd.underlying54 (.plain rfl) rfl)
        apply Trace.pu [] (.cutOwn0 so54 (.plain rfl) (.to _ (.plain rfl) (fun _ => by decide)) rfl)
        apply Trace.pu [] (.assign (.plain rfl))
        exact .nil _
      · exact keepOK_of hk hn rfl
      apply WPA.seq
      refine WPA.ghost (Ghost.cut0 (l := 0) (cs' := [.ints .u8 []]) rfl rfl (by simp [Col.len])) ?_
      apply WPA.region
      · apply Trace.pu [] (.move (.plain rfl))
        apply Trace.pu [] (.assign (.plain rfl))
        exact .nil _
      · exact keepOK_of hk hn rfl
      apply WPA.ret
      refine ⟨.inr rfl, ⟨_, (.cons (.tmp rfl) .nil), ?_⟩, blks_of (.cons rfl .nil)⟩
      rfl
    · simp at hc2; omega
theorem take_flat {L : List (List Int)} {i : Nat} (h : i < L.length) : (L.take (i + 1)).flatten = (L.take i).flatten ++ L.getD i [] := by
  rw [List.take_add_one, List.getElem?_eq_getElem h, List.getD_eq_getElem?_getD, List.getElem?_eq_getElem h, List.flatten_append]
  simp
theorem take_flat_le (L : List (List Int)) (i : Nat) : (L.take i).flatten.length ≤ L.flatten.length := by
  conv => rhs; rw [← List.take_append_drop i L, List.flatten_append, List.length_append]
  omega
/-- slices.Concat[[]byte,byte] -/
theorem spec41 (L : List (List Int)) (G : Nat → List D) (gg : Nat → Nat → List D) (hL : L.flatten.length ≤ 1000000) (hpos : 0 < L.flatten.length) (hLl : L.length ≤ 1000) (hG : ∀ i, i < L.length → G i = [.rows 1 (L.getD i []).length (gg i)]) (hg : ∀ i, i < L.length → ∀ j, j < (L.getD i []).length → gg i j = [.v (.int .u8 ((L.getD i []).getD j 0))]) : FnSpec Tryd.prog 41 [.d (.rows 1 L.length G)] [] (.own 1 L.flatten.length) [(bk 1, .blk (.app 1 L.flatten.length [.ints .u8 L.flatten]))] [] := by
  refine fnSpec_of (rs := [.tmp 2]) Tryd.func41 rfl rfl (Nat.le_of_ble_eq_true rfl) (by simp [St.get]) fun E hk hn => ?_
  apply WPA.seq
  apply WPA.region
  · apply Trace.pu [] (.assign (.plain rfl))
    exact .nil _
  · exact keepOK_of hk hn rfl
  apply WPA.seq
  apply WPA.region
  · apply Trace.pu [] (.assign (.plain rfl))
    exact .nil _
  · exact keepOK_of hk hn rfl
  apply WPA.seq
  apply WPA.seq
  apply WPA.region
  · apply Trace.pu [] (.move (.plain rfl))
    apply Trace.pu [] (.len rfl Tryd.underlying98 (.plain rfl) rfl)
    apply Trace.pu [] (.move (.plain rfl))
    exact .nil _
  · exact keepOK_of hk hn rfl
  apply WPA.block
  refine WPA.loop (σ := Nat) (fun i => [(sl 0, .av (.d (.rows 1 L.length G))), (sl 3, .av (iv .i64 ((L.take i).flatten.length))), (sl 9, .av (.d (.rows 1 L.length G))), (sl 10, .av (iv .i64 (L.length))), (sl 11, .av (iv .i64 (i)))]) (fun i => i ≤ L.length) (fun i => L.length - i) 0
    (St.le_cons rfl (St.le_cons rfl (St.le_cons rfl (St.le_cons rfl (St.le_cons rfl (St.le_nil _)))))) (Nat.zero_le _) fun i hi => ?_
  apply WPA.seq
  apply WPA.region
  · apply Trace.pu [] (.cmp (.plain rfl) (.plain rfl) rfl)
    exact .nil _
  · exact keepOK_of hk hn rfl
  apply WPA.seq
  refine WPA.cond rfl (fun hc1 => ?_) (fun hc1 => ?_)
  · have hlt : i < L.length := by simp at hc1; omega
    have htf := take_flat hlt
    have htl := take_flat_le L (i + 1)
    have htlen : (L.take (i + 1)).flatten.length = (L.take i).flatten.length + (L.getD i []).length := by rw [htf, List.length_append]
    apply WPA.skip
    apply WPA.seq
    apply WPA.block
    apply WPA.seq
    apply WPA.region
    · first | apply Trace.pu [] (.indexRows el98 (.plain rfl) (.plain rfl) (fun _ => ⟨by omega, by omega⟩)) | apply Trace.pu [] (.indexOwn el98 (.plain rfl) (.plain rfl) (fun _ => ⟨by omega, by omega⟩)) | apply Trace.pu [] (.indexSl el98 (.plain rfl) (.plain rfl) (fun _ => ⟨by omega, by omega⟩)) | apply Trace.pu [] (.indexSa el98 (.plain rfl) (.plain rfl) (fun _ => ⟨by omega, by omega⟩))
      apply Trace.pu [] (.loadRp1 ty54 (.plain rfl) (r := .rows 1 (L.getD i []).length (gg i)) (by show (G ((i : Int)).toNat)[0]? = _; rw [Int.toNat_natCast, hG i hlt]; rfl))
      apply Trace.pu [] (.assign (.plain rfl))
      exact .nil _
    · exact keepOK_of hk hn rfl
    apply WPA.seq
    apply WPA.region
    · apply Trace.pu [] (.move (.plain rfl))
      apply Trace.pu [] (.move (.plain rfl))
      apply Trace.pu [] (.len rfl Tryd.underlying54 (.plain rfl) rfl)
      apply Trace.pu [] (.arith (.plain rfl) (.plain rfl) rfl (fun _ => bd64 (by omega)))
      apply Trace.pu [] (.assign (.plain rfl))
      exact .nil _
    · exact keepOK_of hk hn rfl
    apply WPA.seq
    apply WPA.region
    · apply Trace.pu [] (.move (.plain rfl))
      apply Trace.pu [] (.cmp (.plain rfl) (.plain rfl) rfl)
      exact .nil _
    · exact keepOK_of hk hn rfl
    refine WPA.cond rfl (fun hc2 => ?_) (fun hc2 => ?_)
    · simp at hc2; omega
    · apply WPA.skip
      apply WPA.region
      · apply Trace.pu [] (.arith (.plain rfl) (.plain rfl) rfl (fun _ => bd64 (by omega)))
        apply Trace.pu [] (.move (.plain rfl))
        exact .nil _
      · exact keepOK_of hk hn rfl
      exact ⟨i + 1, by omega, by omega, St.le_cons rfl (St.le_cons (iv_eq (by omega)) (St.le_cons rfl (St.le_cons rfl (St.le_cons (iv_eq (by omega)) (St.le_nil _)))))⟩
  · have hend : i = L.length := by simp at hc1; omega
    subst hend
    rw [List.take_length]
    apply WPA.exit
    apply WPA.seq
    apply WPA.region
    · apply Trace.pu [] (.move (.plain rfl))
      apply Trace.cb [1] [] (callArgs0 (.cons (.plain rfl) (.cons (.plain rfl) .nil))) ((spec57 L.flatten.length hpos hL).as 0 1 rfl rfl rfl rfl rfl rfl rfl) en57 .nil rfl rfl
      apply Trace.pu [] (.assign (.plain rfl))
      exact .nil _
    · exact keepOK_of hk hn rfl
    apply WPA.seq
    apply WPA.seq
    apply WPA.region
    · apply Trace.pu [] (.move (.plain rfl))
      apply Trace.pu [] (.len rfl Tryd.underlying98 (.plain rfl) rfl)
      apply Trace.pu [] (.move (.plain rfl))
      exact .nil _
    · exact keepOK_of hk hn rfl
    apply WPA.block
    refine WPA.loop (σ := Nat) (fun i => [(sl 25, .av (.d (.rows 1 L.length G))), (sl 26, .av (iv .i64 (L.length))), (sl 27, .av (iv .i64 (i))), (sl 6, .av (.own 1 (L.take i).flatten.length)), (bk 1, .blk (.app 1 (L.take i).flatten.length [.ints .u8 (L.take i).flatten]))]) (fun i => i ≤ L.length) (fun i => L.length - i) 0
      (St.le_cons rfl (St.le_cons rfl (St.le_cons rfl (St.le_cons rfl (St.le_cons rfl (St.le_nil _)))))) (Nat.zero_le _) fun i hi => ?_
    apply WPA.seq
    apply WPA.region
    · apply Trace.pu [] (.cmp (.plain rfl) (.plain rfl) rfl)
      exact .nil _
    · exact keepOK_of hk hn rfl
    apply WPA.seq
    refine WPA.cond rfl (fun hc3 => ?_) (fun hc3 => ?_)
    · have hlt : i < L.length := by simp at hc3; omega
      have htf := take_flat hlt
      have htl := take_flat_le L (i + 1)
      have htlen : (L.take (i + 1)).flatten.length = (L.take i).flatten.length + (L.getD i []).length := by rw [htf, List.length_append]
      apply WPA.skip
      apply WPA.seq
      apply WPA.block
      apply WPA.seq
      apply WPA.region
      · first | apply Trace.pu [] (.indexRows el98 (.plain rfl) (.plain rfl) (fun _ => ⟨by omega, by omega⟩)) | apply Trace.pu [] (.indexOwn el98 (.plain rfl) (.plain rfl) (fun _ => ⟨by omega, by omega⟩)) | apply Trace.pu [] (.indexSl el98 (.plain rfl) (.plain rfl) (fun _ => ⟨by omega, by omega⟩)) | apply Trace.pu [] (.indexSa el98 (.plain rfl) (.plain rfl) (fun _ => ⟨by omega, by omega⟩))
        apply Trace.pu [] (.loadRp1 ty54 (.plain rfl) (r := .rows 1 (L.getD i []).length (gg i)) (by show (G ((i : Int)).toNat)[0]? = _; rw [Int.toNat_natCast, hG i hlt]; rfl))
        apply Trace.pu [] (.assign (.plain rfl))
        exact .nil _
      · exact keepOK_of hk hn rfl
      apply WPA.region
      · apply Trace.pu [] (.move (.plain rfl))
        apply Trace.pu [] (.move (.plain rfl))
        apply Trace.append 1 [sl 6, sl 31] ap54 kd54 (by decide) (.own (.plain rfl) rfl) (.rows (cs := [.ints .u8 (L.getD i [])]) (.plain rfl) rfl (by simp [Col.len]) (fun j hj => by rw [hg i hlt j hj]; rfl)) (Col.ones rfl) (labs_ok rfl) (by omega) (by omega) rfl rfl
        apply Trace.pu [] (.assign (.plain rfl))
        exact .nil _
      · exact keepOK_of hk hn rfl
      apply WPA.region
      · apply Trace.pu [] (.arith (.plain rfl) (.plain rfl) rfl (fun _ => bd64 (by omega)))
        apply Trace.pu [] (.move (.plain rfl))
        exact .nil _
      · exact keepOK_of hk hn rfl
      exact ⟨i + 1, by omega, by omega, St.le_cons rfl (St.le_cons rfl (St.le_cons (iv_eq (by omega)) (St.le_cons (own_st (by omega)) (St.le_cons (app_eq (by rw [htf]) (by omega)) (St.le_nil _)))))⟩
    · have hend : i = L.length := by simp at hc3; omega
      subst hend
      rw [List.take_length]
      apply WPA.exit
      apply WPA.seq
      apply WPA.region
      · apply Trace.pu [] (.move (.plain rfl))
        apply Trace.pu [] (.assign (.plain rfl))
        exact .nil _
      · exact keepOK_of hk hn rfl
      apply WPA.ret
      refine ⟨.inr rfl, ⟨_, (.cons (.tmp rfl) .nil), ?_⟩, blks_of (.cons rfl .nil)⟩
      rfl
theorem spec40_str (s : ByteArray) (h : s.size ≤ 1000000) : FnSpec Tryd.prog 40 [.d (strD s)] [] (.d (byD (sumM (bytesI s)))) [] [] := by
  have := spec40 (bytesI s) (fun i => [.v (.int .u8 ((s.data.toList.getD i 0).toNat : Int))]) (by rw [bytesI_length]; exact h) (fun i hi => by
    rw [bytesI_length] at hi
    have : i < s.data.size := hi
    have h2 : s.data[i]? = some s.data[i] := Array.getElem?_eq_getElem this
    simp [bytesI, List.getD_eq_getElem?_getD, h2])
  rw [bytesI_length] at this
  exact this
def tagG (x : List Int) (g : Nat → List D) : Nat → Nat → List D := fun i => if i = 0 then (fun j => [(x.map fun x => D.v (.int .u8 x)).getD j (.v .nilFunc)]) else g
def tagR (x b : List Int) (g : Nat → List D) : Nat → List D := fun i => [.rows 1 ([x, b].getD i []).length (tagG x g i)]
theorem tag_rows {x b : List Int} {g : Nat → List D} (hx : x.length = 32) : ∀ i, i < 2 → (([D.rows 1 32 (fun i => [(x.map fun x => D.v (.int .u8 x)).getD i (.v .nilFunc)]), D.rows 1 b.length g]).drop (i * 1)).take 1 = tagR x b g i := by
  intro i hi
  rcases (by omega : i = 0 ∨ i = 1) with rfl | rfl
  · show [D.rows 1 32 _] = [D.rows 1 x.length _]
    rw [hx]
    rfl
  · rfl
theorem tag_cells {x b : List Int} {g : Nat → List D} (hg : ∀ i, i < b.length → g i = [.v (.int .u8 (b.getD i 0))]) : ∀ i, i < [x, b].length → ∀ j, j < ([x, b].getD i []).length → tagG x g i j = [.v (.int .u8 (([x, b].getD i []).getD j 0))] := by
  intro i hi j hj
  rcases (by simp at hi; omega : i = 0 ∨ i = 1) with rfl | rfl
  · have hj : j < x.length := hj
    simp [tagG, hj]
  · exact hg j hj
/-- soundpost/digest.Tagged -/
theorem spec27 (s : ByteArray) (hs : s.size ≤ 1000) (b : List Int) (g : Nat → List D) (hb : b.length ≤ 900000) (hg : ∀ i, i < b.length → g i = [.v (.int .u8 (b.getD i 0))]) : FnSpec Tryd.prog 27 [sv s, .d (.rows 1 b.length g)] [] (.d (byD (tagM (bytesI s) b))) [] [] := by
  refine fnSpec_of (rs := [.cell 4 27]) Tryd.func27 rfl rfl (Nat.le_of_ble_eq_true rfl) (by simp [St.get]) fun E hk hn => ?_
  apply WPA.seq
  apply WPA.region
  · apply Trace.alloc 0 [] (.data _) zo27 (cellsAs_data _) rfl
    exact .nil _
  · exact keepOK_of hk hn rfl
  apply WPA.seq
  apply WPA.region
  · apply Trace.pu [] (.move (.plain rfl))
    apply Trace.strBytes bs54 Tryd.underlying9 (.plain rfl)
    apply Trace.cu (callArgs0 (.cons (.plain rfl) .nil)) (spec40_str s (by omega)) en40
    apply Trace.alloc 1 [] (.data _) zo27 (cellsAs_data _) rfl
    apply Trace.storeD (cs' := (sumM (bytesI s)).map fun x => .v (.int .u8 x)) ty27 (.plain rfl) (.plain rfl) rfl rfl (by simp [sumM_length]) (by simp [AV.oneB, single]) (by decide) (spliceL_all (by simp [sumM_length]))
    exact .nil _
  · exact keepOK_of hk hn rfl
  apply WPA.seq
  refine WPA.ghost (Ghost.freezeLoc (t := 5) (l := 1) rfl rfl) ?_
  have hflat : [sumM (bytesI s), b].flatten = sumM (bytesI s) ++ b := by simp
  have hfl : [sumM (bytesI s), b].flatten.length = 32 + b.length := by rw [hflat, List.length_append, sumM_length]
  apply WPA.region
  · apply Trace.pu [] (.sliceRp ar27 (.plain rfl) (fun _ => by simp [sumM_length]))
    apply Trace.pu [] (.move (.plain rfl))
    apply Trace.buildRows (g := tagR (sumM (bytesI s)) b g) so98 zo54 rfl (by decide) (by decide) (.cons (.plain rfl) rfl rfl (Nat.le_of_ble_eq_true rfl) (.cons (.plain rfl) rfl rfl (Nat.le_of_ble_eq_true rfl) (.nil _ _))) rfl (tag_rows (sumM_length _))
    apply Trace.cu (callArgs0 (.cons (.plain rfl) .nil)) ((spec41 [sumM (bytesI s), b] (tagR (sumM (bytesI s)) b g) (tagG (sumM (bytesI s)) g) (by omega) (by omega) (by simp) (fun i hi => rfl) (tag_cells hg)).frozen (g := fun i => [.v (.int .u8 (([sumM (bytesI s), b].flatten).getD i 0))]) (fun i hi => rfl)) en41
    apply Trace.cu (callArgs0 (.cons (.plain rfl) .nil)) (spec40 [sumM (bytesI s), b].flatten _ (by omega) (fun i hi => rfl)) en40
    apply Trace.storeD (cs' := (sumM [sumM (bytesI s), b].flatten).map fun x => .v (.int .u8 x)) ty27 (.plain rfl) (.plain rfl) rfl rfl (by simp [sumM_length]) (by simp [AV.oneB, single]) (by decide) (spliceL_all (by simp [sumM_length]))
    exact .nil _
  · exact keepOK_of hk hn rfl
  apply WPA.ret
  refine ⟨.inr rfl, ⟨_, (.cons (.cellD rfl rfl ty27 (by simp [sumM_length])) .nil), ?_⟩, by simp [St.get]⟩
  rw [hflat]
  rfl

end Go.Proofs.YtmdfamnnnoieaaaDoor


/- codec.formed and codec.Check: well-formed, depth. -/
namespace Go.Proofs.YtmdfamnnnoieaaaDoor
open Go
set_option linter.unusedVariables false
set_option linter.unusedSimpArgs false
set_option maxRecDepth 10000

/-- soundpost/codec.formed -/
theorem spec49 (v : Val) (hz : v.Sz) (hd : v.depth ≤ 4611686018427387904) : FnSpec Tryd.prog 49 [v.av] [] (.tup ([.v (.int .i64 (if v.formed then v.depth else 0)), .v (.bool v.formed)].map .d)) [] [] := by
  revert hd
  induction hz
  rename_i k n s l h1 h2 h3 h4 hx ih
  intro hd
  refine fnSpec_of (rs := [.tmp 2, .tmp 3]) Tryd.func49 rfl rfl (Nat.le_of_ble_eq_true rfl) (by simp [St.get]) fun E hk hn => ?_
  apply WPA.seq
  apply WPA.region
  · first | apply Trace.boxD 1 [] (.plain rfl) rfl rfl | apply Trace.box 1 [] (.plain rfl) rfl rfl rfl
    apply Trace.pu [] (.assign (.plain rfl))
    apply Trace.pu [] (.assign (.plain rfl))
    exact .nil _
  · exact keepOK_of hk hn rfl
  apply WPA.seq
  apply WPA.region
  · apply Trace.pu [] (.fieldAddr fl53_2 (.plain rfl) rfl)
    first | apply Trace.pu [_] (.loadLoc1D ty9 (.plain rfl) rfl rfl) | apply Trace.pu [_] (.loadLoc1 ty9 (.plain rfl) rfl rfl) | apply Trace.pu [] (.loadRp1 ty9 (.plain rfl) rfl) | apply Trace.pu [_] (.loadCol1 ty9 (.plain rfl) rfl rfl rfl (fun _ => by omega))
    apply Trace.pu [] (.seq (.plain rfl) (.plain rfl))
    apply Trace.pu [] (.move (.plain rfl))
    apply Trace.pg [] rfl (.fieldAddr fl53_3 (.plain rfl) rfl)
    first | apply Trace.pg [_] rfl (.loadLoc1D ty51 (.gd rfl (fun h => h)) rfl rfl) | apply Trace.pg [_] rfl (.loadLoc1 ty51 (.gd rfl (fun h => h)) rfl rfl) | apply Trace.pg [] rfl (.loadRp1 ty51 (.gd rfl (fun h => h)) rfl) | apply Trace.pg [_] rfl (.loadCol1 ty51 (.gd rfl (fun h => h)) rfl rfl rfl (fun _ => by omega))
    apply Trace.pg [] rfl (.len rfl Tryd.underlying51 (.gd rfl (fun h => h)) rfl)
    apply Trace.pg [] rfl (.cmp (.gd rfl (fun h => h)) (.plain rfl) rfl)
    apply Trace.pu [] (.pick (.plain rfl) (.gd rfl (by simp)) (.plain rfl))
    apply Trace.pu [] (.fieldAddr fl53_1 (.plain rfl) rfl)
    first | apply Trace.pu [_] (.loadLoc1D ty3 (.plain rfl) rfl rfl) | apply Trace.pu [_] (.loadLoc1 ty3 (.plain rfl) rfl rfl) | apply Trace.pu [] (.loadRp1 ty3 (.plain rfl) rfl) | apply Trace.pu [_] (.loadCol1 ty3 (.plain rfl) rfl rfl rfl (fun _ => by omega))
    apply Trace.pu [] (.cmp (.plain rfl) (.plain rfl) rfl)
    apply Trace.pu [] (.move (.plain rfl))
    apply Trace.pg [] rfl (.fieldAddr fl53_3 (.plain rfl) rfl)
    first | apply Trace.pg [_] rfl (.loadLoc1D ty51 (.gd rfl (fun h => h)) rfl rfl) | apply Trace.pg [_] rfl (.loadLoc1 ty51 (.gd rfl (fun h => h)) rfl rfl) | apply Trace.pg [] rfl (.loadRp1 ty51 (.gd rfl (fun h => h)) rfl) | apply Trace.pg [_] rfl (.loadCol1 ty51 (.gd rfl (fun h => h)) rfl rfl rfl (fun _ => by omega))
    apply Trace.pg [] rfl (.len rfl Tryd.underlying51 (.gd rfl (fun h => h)) rfl)
    apply Trace.pg [] rfl (.cmp (.gd rfl (fun h => h)) (.plain rfl) rfl)
    apply Trace.pu [] (.pick (.plain rfl) (.gd rfl (by simp)) (.plain rfl))
    apply Trace.pu [] (.fieldAddr fl53_1 (.plain rfl) rfl)
    first | apply Trace.pu [_] (.loadLoc1D ty3 (.plain rfl) rfl rfl) | apply Trace.pu [_] (.loadLoc1 ty3 (.plain rfl) rfl rfl) | apply Trace.pu [] (.loadRp1 ty3 (.plain rfl) rfl) | apply Trace.pu [_] (.loadCol1 ty3 (.plain rfl) rfl rfl rfl (fun _ => by omega))
    apply Trace.pu [] (.cmp (.plain rfl) (.plain rfl) rfl)
    apply Trace.pu [] (.move (.plain rfl))
    apply Trace.pg [] rfl (.fieldAddr fl53_2 (.plain rfl) rfl)
    first | apply Trace.pg [_] rfl (.loadLoc1D ty9 (.gd rfl (fun h => h)) rfl rfl) | apply Trace.pg [_] rfl (.loadLoc1 ty9 (.gd rfl (fun h => h)) rfl rfl) | apply Trace.pg [] rfl (.loadRp1 ty9 (.gd rfl (fun h => h)) rfl) | apply Trace.pg [_] rfl (.loadCol1 ty9 (.gd rfl (fun h => h)) rfl rfl rfl (fun _ => by omega))
    apply Trace.pg [] rfl (.seq (.gd rfl (fun h => h)) (.plain rfl))
    apply Trace.pu [] (.pick (.plain rfl) (.gd rfl (by simp)) (.plain rfl))
    apply Trace.pu [] (.build zo103 pl103 (.cons (.plain rfl) rfl rfl (Nat.le_of_ble_eq_true rfl) (.cons (.plain rfl) rfl rfl (Nat.le_of_ble_eq_true rfl) (.cons (.plain rfl) rfl rfl (Nat.le_of_ble_eq_true rfl) (.nil _ _)))) rfl)
    apply Trace.alloc 4 [] (.data _) zo103 (cellsAs_data _) rfl
    first | apply Trace.storeD ty103 (.plain rfl) (.plain rfl) rfl rfl (by simp [Val.cells_length]) (by first | exact Val.cells_one _ | simp [AV.oneB, single]) (by simp [Val.cells_length]) (spliceL_all (by simp [Val.cells_length])) | apply Trace.storeD ty103 (.plain rfl) (.plain rfl) rfl rfl (by simp [Val.cells_length]) (by first | exact Val.cells_one _ | simp [AV.oneB, single]) (by simp [Val.cells_length]) rfl | apply Trace.storeDA ty103 (.plain rfl) (.plain rfl) rfl rfl (by simp [Val.cells_length]) (by simp [AV.oneB, single]) (by simp [Val.cells_length]) rfl | apply Trace.storeLoc ty103 (.plain rfl) (.plain rfl) rfl rfl (by simp [Val.cells_length]) (by simp [AV.oneB, single]) (by simp) rfl | apply Trace.storeRow ty103 (.plain rfl) (.plain rfl) rfl rfl rfl rfl (by decide) (by simp [AV.oneB, single]) rfl (by omega)
    exact .nil _
  · exact keepOK_of hk hn rfl
  apply WPA.seq
  apply WPA.seq
  refine WPA.ghost (Ghost.dataCols (l := 4) (n := 4) rfl rfl rfl) ?_
  apply WPA.region
  · apply Trace.pu [] (.fieldAddr fl53_0 (.plain rfl) rfl)
    first | apply Trace.pu [_] (.loadLoc1D ty3 (.plain rfl) rfl rfl) | apply Trace.pu [_] (.loadLoc1 ty3 (.plain rfl) rfl rfl) | apply Trace.pu [] (.loadRp1 ty3 (.plain rfl) rfl) | apply Trace.pu [_] (.loadCol1 ty3 (.plain rfl) rfl rfl rfl (fun _ => by omega))
    apply Trace.pu [] (.cmp (.plain rfl) (.plain rfl) rfl)
    apply Trace.pu [] (.move (.plain rfl))
    apply Trace.pg [] rfl (.fieldAddr fl53_0 (.plain rfl) rfl)
    first | apply Trace.pg [_] rfl (.loadLoc1D ty3 (.gd rfl (fun h => h)) rfl rfl) | apply Trace.pg [_] rfl (.loadLoc1 ty3 (.gd rfl (fun h => h)) rfl rfl) | apply Trace.pg [] rfl (.loadRp1 ty3 (.gd rfl (fun h => h)) rfl) | apply Trace.pg [_] rfl (.loadCol1 ty3 (.gd rfl (fun h => h)) rfl rfl rfl (fun _ => by omega))
    apply Trace.pg [] rfl (.cmp (.gd rfl (fun h => h)) (.plain rfl) rfl)
    apply Trace.pu [] (.pick (.plain rfl) (.plain rfl) (.gd rfl (by simp)))
    apply Trace.pu [] (.move (.plain rfl))
    apply Trace.pg [] rfl (.fieldAddr fl53_0 (.plain rfl) rfl)
    first | apply Trace.pg [_] rfl (.loadLoc1D ty3 (.gd rfl (fun h => h)) rfl rfl) | apply Trace.pg [_] rfl (.loadLoc1 ty3 (.gd rfl (fun h => h)) rfl rfl) | apply Trace.pg [] rfl (.loadRp1 ty3 (.gd rfl (fun h => h)) rfl) | apply Trace.pg [_] rfl (.loadCol1 ty3 (.gd rfl (fun h => h)) rfl rfl rfl (fun _ => by omega))
    apply Trace.pg [] rfl (.indexArr ar103 (.plain rfl) (.gd rfl (fun h => h)) (fun h => by simp at h; omega))
    apply Trace.pg [_] rfl (.loadCol1 ty4 (.gd rfl (fun h => h)) rfl rfl rfl (fun h => by simp at h; omega))
    apply Trace.pg [] rfl (.not (.gd rfl (fun h => h)))
    apply Trace.pu [] (.pick (.plain rfl) (.plain rfl) (.gd rfl (by simp)))
    exact .nil _
  · exact keepOK_of hk hn rfl
  refine WPA.cond rfl (fun hc1 => ?_) (fun hc1 => ?_)
  · apply WPA.seq
    apply WPA.region
    · apply Trace.pu [] (.assign (.plain rfl))
      apply Trace.pu [] (.assign (.plain rfl))
      exact .nil _
    · exact keepOK_of hk hn rfl
    apply WPA.ret
    refine ⟨.inr rfl, ⟨_, (.cons (.tmp rfl) (.cons (.tmp rfl) .nil)), ?_⟩, by simp [St.get]⟩
    have hF : (Val.mk k n s l).formed = false := by
      rw [used_eq] at hc1
      rw [Val.formed_eq]
      simp at hc1 ⊢
      grind
    simp [hF, resOf, D.ofV]
  · apply WPA.skip
    apply WPA.seq
    apply WPA.seq
    apply WPA.region
    · apply Trace.pu [] (.fieldAddr fl53_0 (.plain rfl) rfl)
      first | apply Trace.pu [_] (.loadLoc1D ty3 (.plain rfl) rfl rfl) | apply Trace.pu [_] (.loadLoc1 ty3 (.plain rfl) rfl rfl) | apply Trace.pu [] (.loadRp1 ty3 (.plain rfl) rfl) | apply Trace.pu [_] (.loadCol1 ty3 (.plain rfl) rfl rfl rfl (fun _ => by omega))
      apply Trace.pu [] (.cmp (.plain rfl) (.plain rfl) rfl)
      exact .nil _
    · exact keepOK_of hk hn rfl
    refine WPA.cond rfl (fun hc2 => ?_) (fun hc2 => ?_)
    · apply WPA.seq
      apply WPA.region
      · apply Trace.pu [] (.assign (.plain rfl))
        apply Trace.pu [] (.assign (.plain rfl))
        exact .nil _
      · exact keepOK_of hk hn rfl
      apply WPA.ret
      refine ⟨.inr rfl, ⟨_, (.cons (.tmp rfl) (.cons (.tmp rfl) .nil)), ?_⟩, by simp [St.get]⟩
      have hF : (Val.mk k n s l).formed = true := by
        rw [used_eq] at hc1
        rw [Val.formed_eq]
        simp at hc1 hc2 ⊢
        grind
      have hk3 : k ≠ 3 := by simp at hc2; omega
      simp [hF, resOf, D.ofV, Val.depth, hk3]
    · apply WPA.skip
      apply WPA.seq
      apply WPA.seq
      have hk3 : k = 3 := by
        rw [used_eq] at hc1; simp at hc1 hc2; omega
      have hdl : Val.depths l + 1 ≤ 4611686018427387904 := by
        simp only [Val.depth, hk3, if_true] at hd; omega
      apply WPA.region
      · apply Trace.pu [] (.fieldAddr fl53_3 (.plain rfl) rfl)
        first | apply Trace.pu [_] (.loadLoc1D ty51 (.plain rfl) rfl rfl) | apply Trace.pu [_] (.loadLoc1 ty51 (.plain rfl) rfl rfl) | apply Trace.pu [] (.loadRp1 ty51 (.plain rfl) rfl) | apply Trace.pu [_] (.loadCol1 ty51 (.plain rfl) rfl rfl rfl (fun _ => by omega))
        apply Trace.pu [] (.len rfl Tryd.underlying51 (.plain rfl) rfl)
        apply Trace.pu [] (.move (.plain rfl))
        exact .nil _
      · exact keepOK_of hk hn rfl
      apply WPA.block
      refine WPA.loop (σ := Nat) (fun i => [(sl 2, .av (iv .i64 (Val.depths (l.take i)))), (sl 55, .av (.d (.rows 4 l.length (Val.row l)))), (sl 56, .av (iv .i64 l.length)), (sl 57, .av (iv .i64 i))]) (fun i => i ≤ l.length ∧ Val.formeds (l.take i) = true) (fun i => l.length - i) 0
        (St.le_cons rfl (St.le_cons rfl (St.le_cons rfl (St.le_cons rfl (St.le_nil _))))) ⟨Nat.zero_le _, rfl⟩ fun i hi => ?_
      apply WPA.seq
      apply WPA.region
      · apply Trace.pu [] (.cmp (.plain rfl) (.plain rfl) rfl)
        exact .nil _
      · exact keepOK_of hk hn rfl
      apply WPA.seq
      refine WPA.cond rfl (fun hc3 => ?_) (fun hc3 => ?_)
      · have hlt : i < l.length := by simpa using hc3
        apply WPA.skip
        apply WPA.seq
        apply WPA.block
        apply WPA.seq
        apply WPA.region
        · first | apply Trace.pu [] (.indexRows el51 (.plain rfl) (.plain rfl) (fun _ => ⟨by omega, by omega⟩)) | apply Trace.pu [] (.indexOwn el51 (.plain rfl) (.plain rfl) (fun _ => ⟨by omega, by omega⟩)) | apply Trace.pu [] (.indexSl el51 (.plain rfl) (.plain rfl) (fun _ => ⟨by omega, by omega⟩)) | apply Trace.pu [] (.indexSa el51 (.plain rfl) (.plain rfl) (fun _ => ⟨by omega, by omega⟩))
          apply Trace.pu [] ((Pure.loadRp ty53 (.plain rfl) (fun _ => by rw [Val.row_length l _ (by omega)]; exact Nat.le_refl 4)).to (y := (l[i]).av) (by show AV.d (.agg ((Val.row l ((i : Int)).toNat).take 4)) = _; rw [Val.row_take l _ (by omega)]; simp))
          apply Trace.alloc 6 [] (.data _) zo53 (cellsAs_data _) rfl
          first | apply Trace.storeD ty53 (.plain rfl) (.plain rfl) rfl rfl (by simp [Val.cells_length]) (by first | exact Val.cells_one _ | simp [AV.oneB, single]) (by simp [Val.cells_length]) (spliceL_all (by simp [Val.cells_length])) | apply Trace.storeD ty53 (.plain rfl) (.plain rfl) rfl rfl (by simp [Val.cells_length]) (by first | exact Val.cells_one _ | simp [AV.oneB, single]) (by simp [Val.cells_length]) rfl | apply Trace.storeDA ty53 (.plain rfl) (.plain rfl) rfl rfl (by simp [Val.cells_length]) (by simp [AV.oneB, single]) (by simp [Val.cells_length]) rfl | apply Trace.storeLoc ty53 (.plain rfl) (.plain rfl) rfl rfl (by simp [Val.cells_length]) (by simp [AV.oneB, single]) (by simp) rfl | apply Trace.storeRow ty53 (.plain rfl) (.plain rfl) rfl rfl rfl rfl (by decide) (by simp [AV.oneB, single]) rfl (by omega)
          exact .nil _
        · exact keepOK_of hk hn rfl
        apply WPA.seq
        apply WPA.region
        · first | apply Trace.pu [_] (.loadAllD ty53 (.plain rfl) rfl (by simp [Val.cells_length])) | apply Trace.pu [_] (.loadLocD ty53 (.plain rfl) rfl (fun _ => by simp [Val.cells_length])) | apply Trace.pu [_] (.loadLoc ty53 (.plain rfl) rfl (fun _ => Nat.le_of_ble_eq_true rfl)) | apply Trace.pu [] (.loadRp ty53 (.plain rfl) (fun _ => by decide)) | apply Trace.pu [] (.loadRp ty53 (.plain rfl) (fun _ => Nat.le_of_ble_eq_true rfl)) | apply Trace.pu [_] (.loadCol ty53 (.plain rfl) rfl rfl (fun _ => by decide) (fun _ => by omega)) | apply Trace.pu [_] (.loadArr ty53 (.plain rfl) rfl)
          apply Trace.ct (callArgs0 (.cons (.plain rfl) .nil)) (ih l[i] (List.getElem_mem hlt) (by have := Val.depth_mem l[i] (List.getElem_mem hlt); omega)) en49
          apply Trace.pu [] (.move (.plain rfl))
          apply Trace.pu [] (.extract (.plain rfl) rfl)
          apply Trace.pu [] (.extract (.plain rfl) rfl)
          apply Trace.pu [] (.assign (.plain rfl))
          apply Trace.pu [] (.assign (.plain rfl))
          exact .nil _
        · exact keepOK_of hk hn rfl
        apply WPA.seq
        apply WPA.seq
        apply WPA.region
        · apply Trace.pu [] (.move (.plain rfl))
          apply Trace.pu [] (.not (.plain rfl))
          exact .nil _
        · exact keepOK_of hk hn rfl
        refine WPA.cond rfl (fun hc4 => ?_) (fun hc4 => ?_)
        · apply WPA.seq
          apply WPA.region
          · apply Trace.pu [] (.assign (.plain rfl))
            apply Trace.pu [] (.assign (.plain rfl))
            exact .nil _
          · exact keepOK_of hk hn rfl
          apply WPA.ret
          refine ⟨.inr rfl, ⟨_, (.cons (.tmp rfl) (.cons (.tmp rfl) .nil)), ?_⟩, by simp [St.get]⟩
          have hb : l[i].formed = false := by simpa using hc4
          have hF : (Val.mk k n s l).formed = false := by
            have : Val.formeds l = false := by
              cases h : Val.formeds l with
              | false => rfl
              | true => rw [Val.formeds_mem h _ (List.getElem_mem hlt)] at hb; cases hb
            rw [Val.formed_eq, this]
            subst hk3
            simp
          simp [hF, resOf, D.ofV]
        · apply WPA.skip
          apply WPA.region
          · apply Trace.pu [] (.move (.plain rfl))
            apply Trace.pu [] (.move (.plain rfl))
            apply Trace.pu [] (.max2 (.plain rfl) (.plain rfl))
            apply Trace.pu [] (.assign (.plain rfl))
            exact .nil _
          · exact keepOK_of hk hn rfl
          apply WPA.region
          · apply Trace.pu [] (.arith (.plain rfl) (.plain rfl) rfl (fun _ => bd64 (by omega)))
            apply Trace.pu [] (.move (.plain rfl))
            exact .nil _
          · exact keepOK_of hk hn rfl
          have hb : l[i].formed = true := by simpa using hc4
          have e1 : Val.depths (l.take (i + 1)) = max (Val.depths (l.take i)) l[i].depth := by rw [take_succ' l i hlt, Val.depths_append]; simp [Val.depths]
          have e2 : Val.formeds (l.take (i + 1)) = true := by rw [take_succ' l i hlt, Val.formeds_append]; simp [Val.formeds, hb, hi.2]
          exact ⟨i + 1, ⟨by omega, e2⟩, by omega, St.le_cons (iv_eq (by rw [hb, e1]; simp; omega)) (St.le_cons rfl (St.le_cons rfl (St.le_cons (iv_eq (by omega)) (St.le_nil _))))⟩
      · apply WPA.exit
        apply WPA.seq
        have hdt := Val.depths_take l i
        apply WPA.region
        · apply Trace.pu [] (.move (.plain rfl))
          apply Trace.pu [] (.arith (.plain rfl) (.plain rfl) rfl (fun _ => bd64 (by omega)))
          apply Trace.pu [] (.assign (.plain rfl))
          apply Trace.pu [] (.assign (.plain rfl))
          exact .nil _
        · exact keepOK_of hk hn rfl
        apply WPA.ret
        refine ⟨.inr rfl, ⟨_, (.cons (.tmp rfl) (.cons (.tmp rfl) .nil)), ?_⟩, by simp [St.get]⟩
        have hil : i = l.length := by
          have := hi.1
          simp at hc3; omega
        have hF : (Val.mk k n s l).formed = true := by
          have h0 := hi.2
          rw [hil, List.take_length] at h0
          rw [used_eq] at hc1
          rw [Val.formed_eq, h0]
          subst hk3
          simp at hc1 ⊢
          exact hc1
        rw [hil, List.take_length]
        rw [hF]
        simp [resOf, D.ofV, Val.depth, hk3]
        omega
/-- soundpost/codec.Check -/
theorem spec38 (v : Val) (hz : v.Sz) (hd : v.depth ≤ 4611686018427387904) : FnSpec Tryd.prog 38 [v.av] [] (.d (.v (.int .i64 (v.check)))) [] [] := by
  refine fnSpec_of (rs := [.tmp 2]) Tryd.func38 rfl rfl (Nat.le_of_ble_eq_true rfl) (by simp [St.get]) fun E hk hn => ?_
  apply WPA.seq
  apply WPA.region
  · first | apply Trace.boxD 1 [] (.plain rfl) rfl rfl | apply Trace.box 1 [] (.plain rfl) rfl rfl rfl
    apply Trace.pu [] (.assign (.plain rfl))
    exact .nil _
  · exact keepOK_of hk hn rfl
  apply WPA.seq
  apply WPA.region
  · first | apply Trace.pu [_] (.loadAllD ty53 (.plain rfl) rfl (by simp [Val.cells_length])) | apply Trace.pu [_] (.loadLocD ty53 (.plain rfl) rfl (fun _ => by simp [Val.cells_length])) | apply Trace.pu [_] (.loadLoc ty53 (.plain rfl) rfl (fun _ => Nat.le_of_ble_eq_true rfl)) | apply Trace.pu [] (.loadRp ty53 (.plain rfl) (fun _ => by decide)) | apply Trace.pu [] (.loadRp ty53 (.plain rfl) (fun _ => Nat.le_of_ble_eq_true rfl)) | apply Trace.pu [_] (.loadCol ty53 (.plain rfl) rfl rfl (fun _ => by decide) (fun _ => by omega)) | apply Trace.pu [_] (.loadArr ty53 (.plain rfl) rfl)
    apply Trace.ct (callArgs0 (.cons (.plain rfl) .nil)) (spec49 v hz hd) en49
    apply Trace.pu [] (.move (.plain rfl))
    apply Trace.pu [] (.extract (.plain rfl) rfl)
    apply Trace.pu [] (.extract (.plain rfl) rfl)
    apply Trace.pu [] (.assign (.plain rfl))
    apply Trace.pu [] (.assign (.plain rfl))
    exact .nil _
  · exact keepOK_of hk hn rfl
  apply WPA.seq
  apply WPA.block
  apply WPA.seq
  apply WPA.region
  · apply Trace.pu [] (.move (.plain rfl))
    apply Trace.pu [] (.not (.plain rfl))
    apply Trace.pu [] (.assign (.plain rfl))
    exact .nil _
  · exact keepOK_of hk hn rfl
  refine WPA.cond rfl (fun hc1 => ?_) (fun hc1 => ?_)
  · apply WPA.seq
    apply WPA.region
    · apply Trace.pu [] (.assign (.plain rfl))
      exact .nil _
    · exact keepOK_of hk hn rfl
    apply WPA.ret
    refine ⟨.inr rfl, ⟨_, (.cons (.tmp rfl) .nil), ?_⟩, by simp [St.get]⟩
    have hF : v.formed = false := by simpa using hc1
    simp [Val.check, hF, resOf, D.ofV]
  · apply WPA.seq
    apply WPA.region
    · apply Trace.pu [] (.move (.plain rfl))
      apply Trace.pu [] (.cmp (.plain rfl) (.plain rfl) rfl)
      apply Trace.pu [] (.assign (.plain rfl))
      exact .nil _
    · exact keepOK_of hk hn rfl
    refine WPA.cond rfl (fun hc2 => ?_) (fun hc2 => ?_)
    · apply WPA.seq
      apply WPA.region
      · apply Trace.pu [] (.assign (.plain rfl))
        exact .nil _
      · exact keepOK_of hk hn rfl
      apply WPA.ret
      refine ⟨.inr rfl, ⟨_, (.cons (.tmp rfl) .nil), ?_⟩, by simp [St.get]⟩
      have hF : v.formed = true := by simpa using hc1
      rw [hF] at hc2
      have h2 : 16 < v.depth := by simp at hc2; omega
      simp [Val.check, hF, h2, resOf, D.ofV]
    · apply WPA.skip
      apply WPA.seq
      apply WPA.region
      · apply Trace.pu [] (.assign (.plain rfl))
        exact .nil _
      · exact keepOK_of hk hn rfl
      apply WPA.ret
      refine ⟨.inr rfl, ⟨_, (.cons (.tmp rfl) .nil), ?_⟩, by simp [St.get]⟩
      have hF : v.formed = true := by simpa using hc1
      rw [hF] at hc2
      have h2 : ¬ 16 < v.depth := by simp at hc2; omega
      simp [Val.check, hF, h2, resOf, D.ofV]

end Go.Proofs.YtmdfamnnnoieaaaDoor


/- Numerals: codec's and the specification's. -/
namespace Go.Proofs.YtmdfamnnnoieaaaDoor
open Go
set_option linter.unusedVariables false
set_option linter.unusedSimpArgs false
set_option maxRecDepth 10000

/-- soundpost/codec.unsigned -/
theorem spec52 (n : Int) (h : -9223372036854775808 ≤ n ∧ n ≤ 9223372036854775807) : FnSpec Tryd.prog 52 [iv .i64 n] [] (iv .u64 (zig n)) [] [] := by
  refine fnSpec_of (rs := [.tmp 2]) Tryd.func52 rfl rfl (Nat.le_of_ble_eq_true rfl) (by simp [St.get]) fun E hk hn => ?_
  apply WPA.seq
  apply WPA.region
  · apply Trace.pu [] (.assign (.plain rfl))
    exact .nil _
  · exact keepOK_of hk hn rfl
  apply WPA.seq
  apply WPA.region
  · apply Trace.pu [] (.move (.plain rfl))
    apply Trace.pu [] (.conv Tryd.underlying3 Tryd.underlying91 (.plain rfl))
    apply Trace.pu [] (.shl (.plain rfl) (.plain rfl) (fun _ => by decide))
    apply Trace.pu [] (.move (.plain rfl))
    apply Trace.pu [] (.shr (.plain rfl) (.plain rfl) (fun _ => by decide))
    apply Trace.pu [] (.conv Tryd.underlying3 Tryd.underlying91 (.plain rfl))
    apply Trace.pu [] ((Pure.bits (.plain rfl) (.plain rfl) rfl).to (y := iv .u64 (zig n)) (by rw [zig_shift h]))
    apply Trace.pu [] (.assign (.plain rfl))
    exact .nil _
  · exact keepOK_of hk hn rfl
  apply WPA.ret
  refine ⟨.inr rfl, ⟨_, (.cons (.tmp rfl) .nil), ?_⟩, by simp [St.get]⟩
  rfl
/-- soundpost/codec.numeral -/
theorem spec51 (xs : List Int) (u : Nat) (hu : u < 18446744073709551616) (hx : xs.length + 20 ≤ 140737488355328) : FnSpec Tryd.prog 51 [.own 0 xs.length, iv .u64 u] [(bk 0, .blk (.app 1 xs.length [.ints .u8 xs]))] (.own 1 (xs ++ dig u).length) [(bk 1, .blk (.app 1 (xs ++ dig u).length [.ints .u8 (xs ++ dig u)]))] [] := by
  refine fnSpec_of (rs := [.tmp 4]) Tryd.func51 rfl rfl (Nat.le_of_ble_eq_true rfl) (odd_of rfl) fun E hk hn => ?_
  apply WPA.seq
  apply WPA.region
  · apply Trace.pu [] (.assign (.plain rfl))
    exact .nil _
  · exact keepOK_of hk hn rfl
  apply WPA.seq
  apply WPA.block
  refine WPA.loop (σ := List Int × Nat) (fun i => [(sl 0, .av (.own 0 i.1.length)), (sl 1, .av (iv .u64 i.2)), (bk 0, .blk (.app 1 i.1.length [.ints .u8 i.1]))]) (fun i => i.1 ++ dig i.2 = xs ++ dig u ∧ i.2 < 18446744073709551616 ∧ i.1.length ≤ xs.length + 10) (fun i => i.2) (xs, u)
    (St.le_cons rfl (St.le_cons rfl (St.le_cons rfl (St.le_nil _)))) ⟨rfl, hu, by simp⟩ fun i hi => ?_
  obtain ⟨ys, z⟩ := i
  obtain ⟨hi1, hi2, hi3⟩ := hi
  simp only at hi1 hi2 hi3
  dsimp only
  apply WPA.seq
  apply WPA.seq
  apply WPA.region
  · apply Trace.pu [] (.move (.plain rfl))
    apply Trace.pu [] (.cmp (.plain rfl) (.plain rfl) rfl)
    exact .nil _
  · exact keepOK_of hk hn rfl
  refine WPA.cond rfl (fun hc1 => ?_) (fun hc1 => ?_)
  · have hz : 128 ≤ z := by simp at hc1; omega
    have hlen : ys.length < xs.length + 10 := by
      have h1 := congrArg List.length hi1
      have h2 := dig_pos z
      have h3 := dig_length10 hu
      simp only [List.length_append] at h1
      omega
    apply WPA.skip
    apply WPA.seq
    apply WPA.block
    apply WPA.region
    · apply Trace.pu [] (.move (.plain rfl))
      apply Trace.pu [] (.move (.plain rfl))
      apply Trace.pu [] (.conv Tryd.underlying91 Tryd.underlying5 (.plain rfl))
      apply Trace.pu [] ((Pure.bits (.plain rfl) (.plain rfl) rfl).to (y := iv .u8 ((z % 128 + 128 : Nat) : Int)) (by rw [or128]))
      apply Trace.buildSlice 13 [] so54 zo5 rfl (by decide) (by decide) (.cons (.plain rfl) rfl rfl (Nat.le_of_ble_eq_true rfl) (.nil _ _)) rfl rfl rfl
      apply Trace.append 0 [sl 0, sl 9] ap54 kd54 (by decide) (.own (.plain rfl) rfl) (.own (.plain rfl) rfl) (Col.ones rfl) (labs_ok rfl) (by omega) (by omega) rfl rfl
      apply Trace.pu [] (.assign (.plain rfl))
      exact .nil _
    · exact keepOK_of hk hn rfl
    apply WPA.region
    · apply Trace.pu [] (.move (.plain rfl))
      apply Trace.pu [] ((Pure.shr (.plain rfl) (.plain rfl) (fun _ => by decide)).to (y := iv .u64 ((z / 128 : Nat) : Int)) (by rw [shr7]))
      apply Trace.pu [] (.assign (.plain rfl))
      exact .nil _
    · exact keepOK_of hk hn rfl
    exact ⟨(ys ++ [((z % 128 + 128 : Nat) : Int)], z / 128), ⟨by rw [← hi1, dig_ge hz]; simp, by show z / 128 < _; omega, by simp; omega⟩, by show z / 128 < z; omega,
      St.le_cons (by simp; rfl) (St.le_cons rfl (St.le_cons (by simp; rfl) (St.le_nil _)))⟩
  · have hz : z < 128 := by simp at hc1; omega
    apply WPA.exit
    apply WPA.seq
    apply WPA.region
    · apply Trace.pu [] (.move (.plain rfl))
      apply Trace.pu [] (.move (.plain rfl))
      apply Trace.pu [] ((Pure.conv Tryd.underlying91 Tryd.underlying5 (.plain rfl)).to (y := iv .u8 (z : Int)) (by rw [byte_of _ hz]))
      apply Trace.buildSlice 18 [] so54 zo5 rfl (by decide) (by decide) (.cons (.plain rfl) rfl rfl (Nat.le_of_ble_eq_true rfl) (.nil _ _)) rfl rfl rfl
      apply Trace.append 1 [bk 0] ap54 kd54 (by decide) (.own (.plain rfl) rfl) (.own (.plain rfl) rfl) (Col.ones rfl) (labs_ok rfl) (by omega) (by omega) rfl rfl
      apply Trace.pu [] (.assign (.plain rfl))
      exact .nil _
    · exact keepOK_of hk hn rfl
    apply WPA.ret
    refine ⟨.inr rfl, ⟨_, (.cons (.tmp rfl) .nil), ?_⟩, blks_of (.cons (app_eq (by rw [← hi1, dig_lt hz]) (by rw [← hi1, dig_lt hz]; simp)) .nil)⟩
    exact own_eq (by rw [← hi1, dig_lt hz]; simp)
/-- soundpost/soundpostref01.unsigned -/
theorem spec70 (n : Int) (h : -9223372036854775808 ≤ n ∧ n ≤ 9223372036854775807) : FnSpec Tryd.prog 70 [iv .i64 n] [] (iv .u64 (zig n)) [] [] := by
  refine fnSpec_of (rs := [.tmp 2]) Tryd.func70 rfl rfl (Nat.le_of_ble_eq_true rfl) (by simp [St.get]) fun E hk hn => ?_
  apply WPA.seq
  apply WPA.region
  · apply Trace.pu [] (.assign (.plain rfl))
    exact .nil _
  · exact keepOK_of hk hn rfl
  apply WPA.seq
  apply WPA.seq
  apply WPA.region
  · apply Trace.pu [] (.move (.plain rfl))
    apply Trace.pu [] (.cmp (.plain rfl) (.plain rfl) rfl)
    exact .nil _
  · exact keepOK_of hk hn rfl
  refine WPA.cond rfl (fun hc1 => ?_) (fun hc1 => ?_)
  · apply WPA.seq
    apply WPA.region
    · apply Trace.pu [] (.move (.plain rfl))
      apply Trace.pu [] (.conv Tryd.underlying3 Tryd.underlying91 (.plain rfl))
      apply Trace.pu [] (.arithW (.plain rfl) (.plain rfl) rfl)
      apply Trace.pu [] (.assign (.plain rfl))
      exact .nil _
    · exact keepOK_of hk hn rfl
    apply WPA.ret
    refine ⟨.inr rfl, ⟨_, (.cons (.tmp rfl) .nil), ?_⟩, by simp [St.get]⟩
    have h0 : 0 ≤ n := by simpa using hc1
    simp [resOf, D.ofV, wrap_u64, zig, h0]; omega
  · have h0 : ¬ 0 ≤ n := by simpa using hc1
    apply WPA.skip
    apply WPA.seq
    apply WPA.region
    · apply Trace.pu [] (.move (.plain rfl))
      apply Trace.pu [] (.arith (.plain rfl) (.plain rfl) rfl (fun _ => bd64 (by omega)))
      apply Trace.pu [] (.neg (.plain rfl) (fun _ => bd64 (by omega)))
      apply Trace.pu [] (.conv Tryd.underlying3 Tryd.underlying91 (.plain rfl))
      apply Trace.pu [] (.arithW (.plain rfl) (.plain rfl) rfl)
      apply Trace.pu [] (.arithW (.plain rfl) (.plain rfl) rfl)
      apply Trace.pu [] (.assign (.plain rfl))
      exact .nil _
    · exact keepOK_of hk hn rfl
    apply WPA.ret
    refine ⟨.inr rfl, ⟨_, (.cons (.tmp rfl) .nil), ?_⟩, by simp [St.get]⟩
    simp [resOf, D.ofV, wrap_u64, zig, h0]; omega
/-- soundpost/soundpostref01.numeral -/
theorem spec69 (u : Nat) (hu : u < 18446744073709551616) : FnSpec Tryd.prog 69 [iv .u64 u] [] (.own 1 (dig u).length) [(bk 1, .blk (.app 1 (dig u).length [.ints .u8 (dig u)]))] [] := by
  revert hu
  induction u using Nat.strongRecOn
  rename_i u ih
  intro hu
  refine fnSpec_of (rs := [.tmp 2]) Tryd.func69 rfl rfl (Nat.le_of_ble_eq_true rfl) (by simp [St.get]) fun E hk hn => ?_
  apply WPA.seq
  apply WPA.region
  · apply Trace.pu [] (.assign (.plain rfl))
    exact .nil _
  · exact keepOK_of hk hn rfl
  apply WPA.seq
  apply WPA.seq
  apply WPA.region
  · apply Trace.pu [] (.move (.plain rfl))
    apply Trace.pu [] (.cmp (.plain rfl) (.plain rfl) rfl)
    exact .nil _
  · exact keepOK_of hk hn rfl
  refine WPA.cond rfl (fun hc1 => ?_) (fun hc1 => ?_)
  · have hz : u < 128 := by simp at hc1; omega
    apply WPA.seq
    apply WPA.region
    · apply Trace.pu [] (.move (.plain rfl))
      apply Trace.pu [] ((Pure.conv Tryd.underlying91 Tryd.underlying5 (.plain rfl)).to (y := iv .u8 (u : Int)) (by rw [byte_of _ hz]))
      apply Trace.buildSlice 1 [] so54 zo5 rfl (by decide) (by decide) (.cons (.plain rfl) rfl rfl (Nat.le_of_ble_eq_true rfl) (.nil _ _)) rfl rfl rfl
      apply Trace.pu [] (.assign (.plain rfl))
      exact .nil _
    · exact keepOK_of hk hn rfl
    apply WPA.ret
    refine ⟨.inr rfl, ⟨_, (.cons (.tmp rfl) .nil), ?_⟩, by first | exact blks_of (.cons (app_eq (by rw [dig_lt hz]) (by rw [dig_lt hz]; rfl)) .nil) | exact blks_of (.cons (app_eq (by rw [dig_ge hz]; rfl) (by rw [dig_ge hz]; simp; omega)) .nil)⟩
    exact own_eq (by rw [dig_lt hz]; rfl)
  · have hz : 128 ≤ u := by simp at hc1; omega
    have hl := dig_length10 (u := u / 128) (by omega)
    apply WPA.skip
    apply WPA.seq
    apply WPA.region
    · apply Trace.pu [] (.move (.plain rfl))
      apply Trace.pu [] (.rem (.plain rfl) (.plain rfl) (fun _ => by decide))
      apply Trace.pu [] (.arithW (.plain rfl) (.plain rfl) rfl)
      apply Trace.pu [] ((Pure.conv Tryd.underlying91 Tryd.underlying5 (.plain rfl)).to (y := iv .u8 ((u % 128 + 128 : Nat) : Int)) (by rw [rem128 u]))
      apply Trace.buildSlice 12 [] so54 zo5 rfl (by decide) (by decide) (.cons (.plain rfl) rfl rfl (Nat.le_of_ble_eq_true rfl) (.nil _ _)) rfl rfl rfl
      apply Trace.pu [] (.move (.plain rfl))
      apply Trace.pu [] ((Pure.quo (.plain rfl) (.plain rfl) (fun _ => by decide)).to (y := iv .u64 ((u / 128 : Nat) : Int)) (by rw [quo128 u hu]))
      apply Trace.cb [15] [] (callArgs0 (.cons (.plain rfl) .nil)) ((ih (u / 128) (by omega) (by omega)).as 1 15 rfl rfl rfl rfl rfl rfl rfl) en69 .nil rfl rfl
      apply Trace.append 1 [bk 12] ap54 kd54 (by decide) (.own (.plain rfl) rfl) (.own (.plain rfl) rfl) (Col.ones rfl) (labs_ok rfl) (by omega) (by omega) rfl rfl
      apply Trace.pu [] (.assign (.plain rfl))
      exact .nil _
    · exact keepOK_of hk hn rfl
    apply WPA.ret
    refine ⟨.inr rfl, ⟨_, (.cons (.tmp rfl) .nil), ?_⟩, by first | exact blks_of (.cons (app_eq (by rw [dig_lt hz]) (by rw [dig_lt hz]; rfl)) .nil) | exact blks_of (.cons (app_eq (by rw [dig_ge hz]; rfl) (by rw [dig_ge hz]; simp; omega)) .nil)⟩
    exact own_eq (by rw [dig_ge hz]; simp; omega)

end Go.Proofs.YtmdfamnnnoieaaaDoor


/- The writers of codec. -/
namespace Go.Proofs.YtmdfamnnnoieaaaDoor
open Go
set_option linter.unusedVariables false
set_option linter.unusedSimpArgs false
set_option maxRecDepth 10000

/-- What the table of writers holds. -/
abbrev writers : List AV := [.d (.v .nilFunc), .fn 50 [], .fn 53 [], .fn 54 [.loc 1 0]]
abbrev table : St := [(bk 0, .blk (.cells writers)), (bk 1, .blk (.cells [.loc 0 0]))]
/-- soundpost/codec.newWriter -/
theorem spec39  : FnSpec Tryd.prog 39 [] [] (.loc 0 0) table [] := by
  refine fnSpec_of (rs := [.tmp 0]) Tryd.func39 rfl rfl (Nat.le_of_ble_eq_true rfl) (by simp [St.get]) fun E hk hn => ?_
  apply WPA.seq
  apply WPA.region
  · apply Trace.pu [] (.assign (.plain rfl))
    exact .nil _
  · exact keepOK_of hk hn rfl
  apply WPA.seq
  apply WPA.region
  · apply Trace.pu [] (.build zo89 pl89 (.nil _ _) rfl)
    apply Trace.boxD 0 [] (.plain rfl) rfl rfl
    apply Trace.alloc 1 [] (.data _) zo78 (cellsAs_data _) rfl
    first | apply Trace.storeD ty78 (.plain rfl) (.plain rfl) rfl rfl rfl (by simp [AV.oneB, single]) (Nat.le_of_ble_eq_true rfl) rfl | apply Trace.storeDA ty78 (.plain rfl) (.plain rfl) rfl rfl rfl (by simp [AV.oneB, single]) (Nat.le_of_ble_eq_true rfl) rfl | apply Trace.storeLoc ty78 (.plain rfl) (.plain rfl) rfl rfl rfl (by simp [AV.oneB, single]) (Nat.le_of_ble_eq_true rfl) rfl | apply Trace.storeRow ty78 (.plain rfl) (.plain rfl) rfl rfl rfl rfl (by decide) (by simp [AV.oneB, single]) rfl (by omega)
    exact .nil _
  · exact keepOK_of hk hn rfl
  apply WPA.seq
  apply WPA.region
  · first | apply Trace.pu [_] (.loadLoc1D ty78 (.plain rfl) rfl rfl) | apply Trace.pu [_] (.loadLoc1 ty78 (.plain rfl) rfl rfl) | apply Trace.pu [] (.loadRp1 ty78 (.plain rfl) rfl) | apply Trace.pu [_] (.loadCol1 ty78 (.plain rfl) rfl rfl rfl (fun _ => by omega))
    apply Trace.pu [] (.nilCheck (.plain rfl) rfl)
    apply Trace.pu [] (.indexLoc ar89 (.plain rfl) (.plain rfl) (fun _ => by decide) rfl)
    apply Trace.pu [] (.fieldAddr fl77_0 (.plain rfl) rfl)
    first | apply Trace.storeD ty75 (.plain rfl) (.plain rfl) rfl rfl rfl (by simp [AV.oneB, single]) (Nat.le_of_ble_eq_true rfl) rfl | apply Trace.storeDA ty75 (.plain rfl) (.plain rfl) rfl rfl rfl (by simp [AV.oneB, single]) (Nat.le_of_ble_eq_true rfl) rfl | apply Trace.storeLoc ty75 (.plain rfl) (.plain rfl) rfl rfl rfl (by simp [AV.oneB, single]) (Nat.le_of_ble_eq_true rfl) rfl | apply Trace.storeRow ty75 (.plain rfl) (.plain rfl) rfl rfl rfl rfl (by decide) (by simp [AV.oneB, single]) rfl (by omega)
    exact .nil _
  · exact keepOK_of hk hn rfl
  apply WPA.seq
  apply WPA.region
  · first | apply Trace.pu [_] (.loadLoc1D ty78 (.plain rfl) rfl rfl) | apply Trace.pu [_] (.loadLoc1 ty78 (.plain rfl) rfl rfl) | apply Trace.pu [] (.loadRp1 ty78 (.plain rfl) rfl) | apply Trace.pu [_] (.loadCol1 ty78 (.plain rfl) rfl rfl rfl (fun _ => by omega))
    apply Trace.pu [] (.nilCheck (.plain rfl) rfl)
    apply Trace.pu [] (.indexLoc ar89 (.plain rfl) (.plain rfl) (fun _ => by decide) rfl)
    apply Trace.pu [] (.fieldAddr fl77_0 (.plain rfl) rfl)
    first | apply Trace.storeD ty75 (.plain rfl) (.plain rfl) rfl rfl rfl (by simp [AV.oneB, single]) (Nat.le_of_ble_eq_true rfl) rfl | apply Trace.storeDA ty75 (.plain rfl) (.plain rfl) rfl rfl rfl (by simp [AV.oneB, single]) (Nat.le_of_ble_eq_true rfl) rfl | apply Trace.storeLoc ty75 (.plain rfl) (.plain rfl) rfl rfl rfl (by simp [AV.oneB, single]) (Nat.le_of_ble_eq_true rfl) rfl | apply Trace.storeRow ty75 (.plain rfl) (.plain rfl) rfl rfl rfl rfl (by decide) (by simp [AV.oneB, single]) rfl (by omega)
    exact .nil _
  · exact keepOK_of hk hn rfl
  apply WPA.seq
  apply WPA.region
  · first | apply Trace.pu [_] (.loadLoc1D ty78 (.plain rfl) rfl rfl) | apply Trace.pu [_] (.loadLoc1 ty78 (.plain rfl) rfl rfl) | apply Trace.pu [] (.loadRp1 ty78 (.plain rfl) rfl) | apply Trace.pu [_] (.loadCol1 ty78 (.plain rfl) rfl rfl rfl (fun _ => by omega))
    apply Trace.pu [] (.funcL (.cons (.plain rfl) .nil))
    apply Trace.pu [] (.nilCheck (.plain rfl) rfl)
    apply Trace.pu [] (.indexLoc ar89 (.plain rfl) (.plain rfl) (fun _ => by decide) rfl)
    apply Trace.pu [] (.fieldAddr fl77_0 (.plain rfl) rfl)
    first | apply Trace.storeD ty75 (.plain rfl) (.plain rfl) rfl rfl rfl (by simp [AV.oneB, single]) (Nat.le_of_ble_eq_true rfl) rfl | apply Trace.storeDA ty75 (.plain rfl) (.plain rfl) rfl rfl rfl (by simp [AV.oneB, single]) (Nat.le_of_ble_eq_true rfl) rfl | apply Trace.storeLoc ty75 (.plain rfl) (.plain rfl) rfl rfl rfl (by simp [AV.oneB, single]) (Nat.le_of_ble_eq_true rfl) rfl | apply Trace.storeRow ty75 (.plain rfl) (.plain rfl) rfl rfl rfl rfl (by decide) (by simp [AV.oneB, single]) rfl (by omega)
    exact .nil _
  · exact keepOK_of hk hn rfl
  apply WPA.seq
  apply WPA.region
  · first | apply Trace.pu [_] (.loadLoc1D ty78 (.plain rfl) rfl rfl) | apply Trace.pu [_] (.loadLoc1 ty78 (.plain rfl) rfl rfl) | apply Trace.pu [] (.loadRp1 ty78 (.plain rfl) rfl) | apply Trace.pu [_] (.loadCol1 ty78 (.plain rfl) rfl rfl rfl (fun _ => by omega))
    apply Trace.pu [] (.assign (.plain rfl))
    exact .nil _
  · exact keepOK_of hk hn rfl
  apply WPA.ret
  refine ⟨.inr rfl, ⟨_, (.cons (.tmp rfl) .nil), ?_⟩, blks_of (.cons rfl (.cons rfl .nil))⟩
  rfl
/-- soundpost/codec.newWriter$1 -/
theorem spec50 (xs : List Int) (n : Int) (s : ByteArray) (l : List Val) (hN : -9223372036854775808 ≤ n ∧ n ≤ 9223372036854775807) (hx : xs.length + 40 ≤ 140737488355328) : FnSpec Tryd.prog 50 [.own 2 xs.length, (Val.mk 1 n s l).av] [(bk 2, .blk (.app 1 xs.length [.ints .u8 xs]))] (.own 2 (xs ++ (Val.mk 1 n s l).enc).length) [(bk 2, .blk (.app 1 (xs ++ (Val.mk 1 n s l).enc).length [.ints .u8 (xs ++ (Val.mk 1 n s l).enc)]))] [] := by
  refine fnSpec_of (rs := [.tmp 4]) Tryd.func50 rfl rfl (Nat.le_of_ble_eq_true rfl) (odd_of rfl) fun E hk hn => ?_
  apply WPA.seq
  apply WPA.region
  · first | apply Trace.boxD 3 [] (.plain rfl) rfl rfl | apply Trace.box 3 [] (.plain rfl) rfl rfl rfl
    apply Trace.pu [] (.assign (.plain rfl))
    exact .nil _
  · exact keepOK_of hk hn rfl
  apply WPA.seq
  apply WPA.draw mixed
  · apply Trace.pu [] (.move (.plain rfl))
    apply Trace.buildSlice 6 [] so54 zo5 rfl (by decide) (by decide) (.cons (.plain rfl) rfl rfl (Nat.le_of_ble_eq_true rfl) (.nil _ _)) rfl rfl rfl
    apply Trace.append 7 [bk 2] ap54 kd54 (by decide) (.own (.plain rfl) rfl) (.own (.plain rfl) rfl) (Col.ones rfl) (labs_ok rfl) (by omega) (by omega) rfl rfl
    apply Trace.pu [] (.fieldAddr fl53_1 (.plain rfl) rfl)
    first | apply Trace.pu [_] (.loadLoc1D ty3 (.plain rfl) rfl rfl) | apply Trace.pu [_] (.loadLoc1 ty3 (.plain rfl) rfl rfl) | apply Trace.pu [] (.loadRp1 ty3 (.plain rfl) rfl) | apply Trace.pu [_] (.loadCol1 ty3 (.plain rfl) rfl rfl rfl (fun _ => by omega))
    apply Trace.cu (callArgs0 (.cons (.plain rfl) .nil)) (spec52 n hN) en52
    have hz := zig_lt hN
    have e7 : (xs ++ [(1 : Int)]).length = xs.length + 1 := by simp
    apply Trace.cb [2] [bk 7, sl 0, sl 5] (callArgs0 (.cons (.plain rfl) (.cons (.plain rfl) .nil))) ((spec51 (xs ++ [1]) (zig n) hz (by simp; omega)).as 0 7 rfl rfl rfl rfl rfl rfl rfl |>.as 1 2 rfl rfl (by rw [e7]; rfl) (by rw [e7]; rfl) rfl rfl rfl) en51 (.cons rfl .nil) rfl rfl
    apply Trace.pu [] (.assign (.plain rfl))
    exact .nil _
  · rfl
  · exact keepOK_of hk hn rfl
  apply WPA.ret
  refine ⟨.inr rfl, ⟨_, (.cons (.tmp rfl) .nil), ?_⟩, blks_of (.cons (app_eq (by rw [Val.enc_int]; simp) (by rw [Val.enc_int]; simp)) .nil)⟩
  exact own_eq (by rw [Val.enc_int]; simp)
/-- soundpost/codec.newWriter$2 -/
theorem spec53 (xs : List Int) (n : Int) (s : ByteArray) (l : List Val) (hs : s.size ≤ 140737488355328) (hx : xs.length + s.size + 40 ≤ 140737488355328) : FnSpec Tryd.prog 53 [.own 2 xs.length, (Val.mk 2 n s l).av] [(bk 2, .blk (.app 1 xs.length [.ints .u8 xs]))] (.own 2 (xs ++ (Val.mk 2 n s l).enc).length) [(bk 2, .blk (.app 1 (xs ++ (Val.mk 2 n s l).enc).length [.ints .u8 (xs ++ (Val.mk 2 n s l).enc)]))] [] := by
  refine fnSpec_of (rs := [.tmp 4]) Tryd.func53 rfl rfl (Nat.le_of_ble_eq_true rfl) (odd_of rfl) fun E hk hn => ?_
  apply WPA.seq
  apply WPA.region
  · first | apply Trace.boxD 3 [] (.plain rfl) rfl rfl | apply Trace.box 3 [] (.plain rfl) rfl rfl rfl
    apply Trace.pu [] (.assign (.plain rfl))
    exact .nil _
  · exact keepOK_of hk hn rfl
  apply WPA.seq
  apply WPA.draw mixed
  · apply Trace.pu [] (.move (.plain rfl))
    apply Trace.buildSlice 6 [] so54 zo5 rfl (by decide) (by decide) (.cons (.plain rfl) rfl rfl (Nat.le_of_ble_eq_true rfl) (.nil _ _)) rfl rfl rfl
    apply Trace.append 7 [bk 2] ap54 kd54 (by decide) (.own (.plain rfl) rfl) (.own (.plain rfl) rfl) (Col.ones rfl) (labs_ok rfl) (by omega) (by omega) rfl rfl
    apply Trace.pu [] (.fieldAddr fl53_2 (.plain rfl) rfl)
    first | apply Trace.pu [_] (.loadLoc1D ty9 (.plain rfl) rfl rfl) | apply Trace.pu [_] (.loadLoc1 ty9 (.plain rfl) rfl rfl) | apply Trace.pu [] (.loadRp1 ty9 (.plain rfl) rfl) | apply Trace.pu [_] (.loadCol1 ty9 (.plain rfl) rfl rfl rfl (fun _ => by omega))
    apply Trace.pu [] (.lenS rfl Tryd.underlying9 (.plain rfl))
    apply Trace.pu [] ((Pure.conv Tryd.underlying3 Tryd.underlying91 (.plain rfl)).to (y := iv .u64 ((s.size : Nat) : Int)) (by rw [wrap_u64_id (by omega)]))
    have hz : s.size < 18446744073709551616 := by omega
    have h10 := dig_length10 hz
    have e7 : (xs ++ [(2 : Int)]).length = xs.length + 1 := by simp
    apply Trace.cb [12] [bk 7] (callArgs0 (.cons (.plain rfl) (.cons (.plain rfl) .nil))) ((spec51 (xs ++ [2]) s.size hz (by simp; omega)).as 0 7 rfl rfl rfl rfl rfl rfl rfl |>.as 1 12 rfl rfl (by rw [e7]; rfl) (by rw [e7]; rfl) rfl rfl rfl) en51 (.cons rfl .nil) rfl rfl
    apply Trace.pu [] (.fieldAddr fl53_2 (.plain rfl) rfl)
    first | apply Trace.pu [_] (.loadLoc1D ty9 (.plain rfl) rfl rfl) | apply Trace.pu [_] (.loadLoc1 ty9 (.plain rfl) rfl rfl) | apply Trace.pu [] (.loadRp1 ty9 (.plain rfl) rfl) | apply Trace.pu [_] (.loadCol1 ty9 (.plain rfl) rfl rfl rfl (fun _ => by omega))
    apply Trace.append 2 [bk 12, sl 0, sl 5] ap54 kd9 (by decide) (.own (.plain rfl) rfl) (.str (.plain rfl)) (Col.ones rfl) (labs_ok rfl) (by simp; omega) (by simp; omega) rfl rfl
    apply Trace.pu [] (.assign (.plain rfl))
    exact .nil _
  · rfl
  · exact keepOK_of hk hn rfl
  apply WPA.ret
  refine ⟨.inr rfl, ⟨_, (.cons (.tmp rfl) .nil), ?_⟩, blks_of (.cons (app_eq (by rw [Val.enc_text]; simp [bytesI]) (by rw [Val.enc_text]; simp [bytesI_length]; omega)) .nil)⟩
  exact own_eq (by rw [Val.enc_text]; simp [bytesI_length]; omega)
/-- soundpost/codec.newWriter$3 -/
theorem spec54 (v : Val) (hz : v.Sz) (hf : v.formed = true) (hk3 : v.kind = 3) (xs : List Int) (hx : xs.length + v.enc.length + 40 ≤ 140737488355328) : FnSpec Tryd.prog 54 [.own 2 xs.length, v.av, .loc 1 0] ((bk 2, .blk (.app 1 xs.length [.ints .u8 xs])) :: table) (.own 2 (xs ++ v.enc).length) ((bk 2, .blk (.app 1 (xs ++ v.enc).length [.ints .u8 (xs ++ v.enc)])) :: table) [0, 1] := by
  revert hf hk3 xs
  induction hz
  rename_i k n s l h1 h2 h3 h4 hm ih
  intro hf hk3 xs hx
  have hk3 : k = 3 := hk3
  subst hk3
  obtain ⟨_, _, hfl⟩ := Val.formed_list hf
  have hll : l.length < 18446744073709551616 := by omega
  have h10 := dig_length10 hll
  have e10 : (xs ++ [(3 : Int)]).length = xs.length + 1 := by simp
  have hel0 : (Val.mk 3 n s l).enc.length = 1 + (dig l.length).length + (Val.encs l).length := by rw [Val.enc_list]; simp; omega
  refine fnSpec_of (rs := [.tmp 5]) Tryd.func54 rfl rfl (Nat.le_of_ble_eq_true rfl) (odd_of rfl) fun E hk hn => ?_
  apply WPA.seq
  apply WPA.region
  · first | apply Trace.boxD 4 [] (.plain rfl) rfl rfl | apply Trace.box 4 [] (.plain rfl) rfl rfl rfl
    apply Trace.pu [] (.assign (.plain rfl))
    exact .nil _
  · exact keepOK_of hk hn rfl
  apply WPA.seq
  apply WPA.draw mixed
  · apply Trace.pu [] (.move (.plain rfl))
    apply Trace.buildSlice 9 [] so54 zo5 rfl (by decide) (by decide) (.cons (.plain rfl) rfl rfl (Nat.le_of_ble_eq_true rfl) (.nil _ _)) rfl rfl rfl
    apply Trace.append 10 [bk 2] ap54 kd54 (by decide) (.own (.plain rfl) rfl) (.own (.plain rfl) rfl) (Col.ones rfl) (labs_ok rfl) (by omega) (by omega) rfl rfl
    apply Trace.pu [] (.fieldAddr fl53_3 (.plain rfl) rfl)
    first | apply Trace.pu [_] (.loadLoc1D ty51 (.plain rfl) rfl rfl) | apply Trace.pu [_] (.loadLoc1 ty51 (.plain rfl) rfl rfl) | apply Trace.pu [] (.loadRp1 ty51 (.plain rfl) rfl) | apply Trace.pu [_] (.loadCol1 ty51 (.plain rfl) rfl rfl rfl (fun _ => by omega))
    apply Trace.pu [] (.len rfl Tryd.underlying51 (.plain rfl) rfl)
    apply Trace.pu [] ((Pure.conv Tryd.underlying3 Tryd.underlying91 (.plain rfl)).to (y := iv .u64 ((l.length : Nat) : Int)) (by rw [wrap_u64_id (by omega)]))
    apply Trace.cb [2] [bk 10, sl 0, sl 8] (callArgs0 (.cons (.plain rfl) (.cons (.plain rfl) .nil))) ((spec51 (xs ++ [3]) l.length hll (by simp; omega)).as 0 10 rfl rfl rfl rfl rfl rfl rfl |>.as 1 2 rfl rfl (by rw [e10]; rfl) (by rw [e10]; rfl) rfl rfl rfl) en51 (.cons rfl .nil) rfl rfl
    apply Trace.pu [] (.assign (.plain rfl))
    exact .nil _
  · rfl
  · exact keepOK_of hk hn rfl
  apply WPA.seq
  apply WPA.seq
  apply WPA.region
  · apply Trace.pu [] (.fieldAddr fl53_3 (.plain rfl) rfl)
    first | apply Trace.pu [_] (.loadLoc1D ty51 (.plain rfl) rfl rfl) | apply Trace.pu [_] (.loadLoc1 ty51 (.plain rfl) rfl rfl) | apply Trace.pu [] (.loadRp1 ty51 (.plain rfl) rfl) | apply Trace.pu [_] (.loadCol1 ty51 (.plain rfl) rfl rfl rfl (fun _ => by omega))
    apply Trace.pu [] (.len rfl Tryd.underlying51 (.plain rfl) rfl)
    apply Trace.pu [] (.move (.plain rfl))
    exact .nil _
  · exact keepOK_of hk hn rfl
  apply WPA.block
  refine WPA.loop (σ := Nat) (fun i => [(sl 0, .av (.own 2 (xs ++ 3 :: (dig l.length ++ Val.encs (l.take i))).length)), (sl 2, .av (.loc 1 0)), (sl 17, .av (.d (.rows 4 l.length (Val.row l)))), (sl 18, .av (iv .i64 l.length)), (sl 19, .av (iv .i64 i)), (bk 2, .blk (.app 1 (xs ++ 3 :: (dig l.length ++ Val.encs (l.take i))).length [.ints .u8 (xs ++ 3 :: (dig l.length ++ Val.encs (l.take i)))])), (bk 0, .blk (.cells writers)), (bk 1, .blk (.cells [.loc 0 0]))]) (fun i => i ≤ l.length) (fun i => l.length - i) 0
    (St.le_cons (by simp [Val.encs]; rfl) (St.le_cons rfl (St.le_cons rfl (St.le_cons rfl (St.le_cons rfl (St.le_cons (by simp [Val.encs]; rfl) (St.le_cons rfl (St.le_cons rfl (St.le_nil _))))))))) (Nat.zero_le _) fun i hi => ?_
  apply WPA.seq
  apply WPA.region
  · apply Trace.pu [] (.cmp (.plain rfl) (.plain rfl) rfl)
    exact .nil _
  · exact keepOK_of hk hn rfl
  apply WPA.seq
  refine WPA.cond rfl (fun hc1 => ?_) (fun hc1 => ?_)
  · have hlt : i < l.length := by simpa using hc1
    obtain ⟨y, hy⟩ : ∃ y, l[i] = y := ⟨_, rfl⟩
    have hym : y ∈ l := hy ▸ List.getElem_mem hlt
    apply WPA.skip
    apply WPA.seq
    apply WPA.block
    apply WPA.seq
    apply WPA.region
    · first | apply Trace.pu [] (.indexRows el51 (.plain rfl) (.plain rfl) (fun _ => ⟨by omega, by omega⟩)) | apply Trace.pu [] (.indexOwn el51 (.plain rfl) (.plain rfl) (fun _ => ⟨by omega, by omega⟩)) | apply Trace.pu [] (.indexSl el51 (.plain rfl) (.plain rfl) (fun _ => ⟨by omega, by omega⟩)) | apply Trace.pu [] (.indexSa el51 (.plain rfl) (.plain rfl) (fun _ => ⟨by omega, by omega⟩))
      apply Trace.pu [] ((Pure.loadRp ty53 (.plain rfl) (fun _ => by rw [Val.row_length l _ (by omega)]; exact Nat.le_refl 4)).to (y := y.av) (by show AV.d (.agg ((Val.row l ((i : Int)).toNat).take 4)) = _; rw [Val.row_take l _ (by omega)]; simp [hy]))
      apply Trace.alloc 7 [] (.data _) zo53 (cellsAs_data _) rfl
      first | apply Trace.storeD ty53 (.plain rfl) (.plain rfl) rfl rfl (by simp [Val.cells_length]) (by first | exact Val.cells_one _ | simp [AV.oneB, single]) (by simp [Val.cells_length]) (spliceL_all (by simp [Val.cells_length])) | apply Trace.storeD ty53 (.plain rfl) (.plain rfl) rfl rfl (by simp [Val.cells_length]) (by first | exact Val.cells_one _ | simp [AV.oneB, single]) (by simp [Val.cells_length]) rfl | apply Trace.storeDA ty53 (.plain rfl) (.plain rfl) rfl rfl (by simp [Val.cells_length]) (by simp [AV.oneB, single]) (by simp [Val.cells_length]) rfl | apply Trace.storeLoc ty53 (.plain rfl) (.plain rfl) rfl rfl (by simp [Val.cells_length]) (by simp [AV.oneB, single]) (by simp) rfl | apply Trace.storeRow ty53 (.plain rfl) (.plain rfl) rfl rfl rfl rfl (by decide) (by simp [AV.oneB, single]) rfl (by omega)
      exact .nil _
    · exact keepOK_of hk hn rfl
    have hys := hm y hym
    have hyf := Val.formeds_mem hfl y hym
    have hel := Val.encs_split l (i + 1)
    have het := Val.encs_take l i hlt
    rw [hy] at het
    have hlen : (Val.encs l).length = (Val.encs (l.take i)).length + y.enc.length + (Val.encs (l.drop (i + 1))).length := by rw [hel, het]; simp; omega
    obtain ⟨zs, hzs⟩ : ∃ zs, xs ++ 3 :: (dig l.length ++ Val.encs (l.take i)) = zs := ⟨_, rfl⟩
    have hzl : zs.length = xs.length + (1 + ((dig l.length).length + (Val.encs (l.take i)).length)) := by rw [← hzs]; simp; omega
    have hnx : xs ++ 3 :: (dig l.length ++ Val.encs (l.take (i + 1))) = zs ++ y.enc := by rw [← hzs, het]; simp
    rw [hzs]
    have ih' := ih y hym hyf
    rcases y with ⟨k', n', s', l'⟩
    have hk' := Val.kind_of hyf
    have hyn : -9223372036854775808 ≤ n' ∧ n' ≤ 9223372036854775807 := by cases hys with | mk _ _ _ _ _ h _ _ _ => exact h
    have hyz : s'.size ≤ 140737488355328 := by cases hys with | mk _ _ _ _ _ _ h _ _ => exact h
    rcases hk' with rfl | rfl | rfl
    all_goals
      apply WPA.draw mixed
      · first | apply Trace.pu [_] (.loadLoc1D ty78 (.plain rfl) rfl rfl) | apply Trace.pu [_] (.loadLoc1 ty78 (.plain rfl) rfl rfl) | apply Trace.pu [] (.loadRp1 ty78 (.plain rfl) rfl) | apply Trace.pu [_] (.loadCol1 ty78 (.plain rfl) rfl rfl rfl (fun _ => by omega))
        apply Trace.pu [] (.fieldAddr fl53_0 (.plain rfl) rfl)
        first | apply Trace.pu [_] (.loadLoc1D ty3 (.plain rfl) rfl rfl) | apply Trace.pu [_] (.loadLoc1 ty3 (.plain rfl) rfl rfl) | apply Trace.pu [] (.loadRp1 ty3 (.plain rfl) rfl) | apply Trace.pu [_] (.loadCol1 ty3 (.plain rfl) rfl rfl rfl (fun _ => by omega))
        apply Trace.pu [] (.nilCheck (.plain rfl) rfl)
        apply Trace.pu [] (.indexLoc ar89 (.plain rfl) (.plain rfl) (fun _ => by decide) rfl)
        apply Trace.pu [] (.fieldAddr fl77_0 (.plain rfl) rfl)
        first | apply Trace.pu [_] (.loadLoc1D ty75 (.plain rfl) rfl rfl) | apply Trace.pu [_] (.loadLoc1 ty75 (.plain rfl) rfl rfl) | apply Trace.pu [] (.loadRp1 ty75 (.plain rfl) rfl) | apply Trace.pu [_] (.loadCol1 ty75 (.plain rfl) rfl rfl rfl (fun _ => by omega))
        apply Trace.pu [] (.move (.plain rfl))
        first | apply Trace.pu [_] (.loadAllD ty53 (.plain rfl) rfl (by simp [Val.cells_length])) | apply Trace.pu [_] (.loadLocD ty53 (.plain rfl) rfl (fun _ => by simp [Val.cells_length])) | apply Trace.pu [_] (.loadLoc ty53 (.plain rfl) rfl (fun _ => Nat.le_of_ble_eq_true rfl)) | apply Trace.pu [] (.loadRp ty53 (.plain rfl) (fun _ => by decide)) | apply Trace.pu [] (.loadRp ty53 (.plain rfl) (fun _ => Nat.le_of_ble_eq_true rfl)) | apply Trace.pu [_] (.loadCol ty53 (.plain rfl) rfl rfl (fun _ => by decide) (fun _ => by omega)) | apply Trace.pu [_] (.loadArr ty53 (.plain rfl) rfl)
        first
          | apply Trace.cb [2] [bk 2, sl 0, sl 30] (callArgs (.plain rfl) (.cons (.plain rfl) (.cons (.plain rfl) .nil))) (spec50 zs n' s' l' hyn (by omega)) en50 (.cons rfl .nil) rfl rfl
          | apply Trace.cb [2] [bk 2, sl 0, sl 30] (callArgs (.plain rfl) (.cons (.plain rfl) (.cons (.plain rfl) .nil))) (spec53 zs n' s' l' hyz (by rw [Val.enc_text] at hlen; simp [bytesI_length] at hlen; omega)) en53 (.cons rfl .nil) rfl rfl
          | apply Trace.cb [2] [bk 2, sl 0, sl 30, bk 0, bk 1] (callArgs (.plain rfl) (.cons (.plain rfl) (.cons (.plain rfl) .nil))) (ih' rfl zs (by omega)) en54 (.cons rfl (.cons rfl (.cons rfl .nil))) rfl rfl
        apply Trace.pu [] (.assign (.plain rfl))
        exact .nil _
      · rfl
      · exact keepOK_of hk hn rfl
      apply WPA.region
      · apply Trace.pu [] (.arith (.plain rfl) (.plain rfl) rfl (fun _ => bd64 (by omega)))
        apply Trace.pu [] (.move (.plain rfl))
        exact .nil _
      · exact keepOK_of hk hn rfl
      exact ⟨i + 1, by omega, by omega, St.le_cons (by rw [hnx]; rfl) (St.le_cons rfl (St.le_cons rfl (St.le_cons rfl (St.le_cons (iv_eq (by omega)) (St.le_cons (by rw [hnx]; rfl) (St.le_cons rfl (St.le_cons rfl (St.le_nil _))))))))⟩
  · have hil : i = l.length := by
      have : ¬ ((i : Int) < l.length) := by simpa using hc1
      omega
    subst hil
    rw [List.take_length]
    apply WPA.exit
    apply WPA.seq
    apply WPA.region
    · apply Trace.pu [] (.move (.plain rfl))
      apply Trace.pu [] (.assign (.plain rfl))
      exact .nil _
    · exact keepOK_of hk hn rfl
    apply WPA.ret
    refine ⟨.inr rfl, ⟨_, (.cons (.tmp rfl) .nil), ?_⟩, blks_of (.cons (app_eq (by rw [Val.enc_list]) (by rw [Val.enc_list])) (.cons rfl (.cons rfl .nil)))⟩
    exact own_eq (by rw [Val.enc_list])

end Go.Proofs.YtmdfamnnnoieaaaDoor


/- Encode and Size of codec. -/
namespace Go.Proofs.YtmdfamnnnoieaaaDoor
open Go
set_option linter.unusedVariables false
set_option linter.unusedSimpArgs false
set_option maxRecDepth 10000

/-- What Encode hands back. -/
def Val.encoded (v : Val) : List Int := if v.check = 0 then v.enc else []
theorem Val.check_ok {v : Val} (h : v.check = 0) : v.formed = true := by
  unfold Val.check at h
  split at h
  · assumption
  · cases h
theorem Val.sz_n {k n : Int} {s : ByteArray} {l : List Val} (h : (Val.mk k n s l).Sz) : -9223372036854775808 ≤ n ∧ n ≤ 9223372036854775807 := by cases h with | mk _ _ _ _ _ h _ _ _ => exact h
theorem Val.sz_s {k n : Int} {s : ByteArray} {l : List Val} (h : (Val.mk k n s l).Sz) : s.size ≤ 140737488355328 := by cases h with | mk _ _ _ _ _ _ h _ _ => exact h
/-- soundpost/codec.Encode -/
theorem spec26 (v : Val) (hz : v.Sz) (hd : v.depth ≤ 4611686018427387904) (hl : v.encoded.length + 40 ≤ 140737488355328) : FnSpec Tryd.prog 26 [v.av] [] (.tup ([bytesD v.encoded, .v (.int .i64 v.check)].map .d)) [] [] := by
  refine fnSpec_of (rs := [.tmp 2, .tmp 3]) Tryd.func26 rfl rfl (Nat.le_of_ble_eq_true rfl) (by simp [St.get]) fun E hk hn => ?_
  apply WPA.seq
  apply WPA.region
  · apply Trace.boxD 5 [] (.plain rfl) rfl rfl
    apply Trace.pu [] (.assign (.plain rfl))
    apply Trace.pu [] (.assign (.plain rfl))
    exact .nil _
  · exact keepOK_of hk hn rfl
  apply WPA.seq
  apply WPA.seq
  apply WPA.region
  · apply Trace.pu [_] ((Pure.loadAllD ty53 (.plain rfl) rfl (by simp [Val.cells_length])).to (y := v.av) rfl)
    apply Trace.cu (callArgs0 (.cons (.plain rfl) .nil)) (spec38 v hz hd) en38
    apply Trace.pu [] (.assign (.plain rfl))
    exact .nil _
  · exact keepOK_of hk hn rfl
  apply WPA.seq
  apply WPA.region
  · apply Trace.pu [] (.move (.plain rfl))
    apply Trace.pu [] (.cmp (.plain rfl) (.plain rfl) rfl)
    exact .nil _
  · exact keepOK_of hk hn rfl
  refine WPA.cond rfl (fun hc1 => ?_) (fun hc1 => ?_)
  · have hne : v.check ≠ 0 := by simpa using hc1
    apply WPA.seq
    apply WPA.region
    · apply Trace.pu [] (.move (.plain rfl))
      apply Trace.pu [] (.assign (.plain rfl))
      apply Trace.pu [] (.assign (.plain rfl))
      exact .nil _
    · exact keepOK_of hk hn rfl
    refine WPA.ghost (Ghost.slot (t := 2) rfl (den_nilRows (n := 1) (g := fun i => [Col.at (.ints .u8 []) i]))) ?_
    apply WPA.ret
    refine ⟨.inr rfl, ⟨_, (.cons (.tmp rfl) (.cons (.tmp rfl) .nil)), ?_⟩, by simp [St.get]⟩
    have : v.encoded = [] := by simp [Val.encoded, hne]
    simp [resOf, this, bytesD, rowsD]
  · have he : v.check = 0 := by simpa using hc1
    have hf := Val.check_ok he
    have hen : v.encoded = v.enc := by simp [Val.encoded, he]
    rw [hen] at hl ⊢
    apply WPA.skip
    apply WPA.seq
    rcases v with ⟨k, n, s, l⟩
    have h1 := Val.sz_n hz
    have h2 := Val.sz_s hz
    have h3 := Val.kind_of hf
    rcases h3 with rfl | rfl | rfl
    all_goals
      apply WPA.draw mixed
      · apply Trace.cb [0, 1] [] (callArgs0 .nil) spec39 en39 .nil rfl rfl
        apply Trace.pu [] (.fieldAddr fl53_0 (.plain rfl) rfl)
        first | apply Trace.pu [_] (.loadLoc1D ty3 (.plain rfl) rfl rfl) | apply Trace.pu [_] (.loadLoc1 ty3 (.plain rfl) rfl rfl) | apply Trace.pu [] (.loadRp1 ty3 (.plain rfl) rfl) | apply Trace.pu [_] (.loadCol1 ty3 (.plain rfl) rfl rfl rfl (fun _ => by omega))
        apply Trace.pu [] (.nilCheck (.plain rfl) rfl)
        apply Trace.pu [] (.indexLoc ar89 (.plain rfl) (.plain rfl) (fun _ => by decide) rfl)
        apply Trace.pu [] (.fieldAddr fl77_0 (.plain rfl) rfl)
        first | apply Trace.pu [_] (.loadLoc1D ty75 (.plain rfl) rfl rfl) | apply Trace.pu [_] (.loadLoc1 ty75 (.plain rfl) rfl rfl) | apply Trace.pu [] (.loadRp1 ty75 (.plain rfl) rfl) | apply Trace.pu [_] (.loadCol1 ty75 (.plain rfl) rfl rfl rfl (fun _ => by omega))
        apply Trace.pu [_] ((Pure.loadAllD ty53 (.plain rfl) rfl (by simp [Val.cells_length])).to (y := (Val.mk _ n s l).av) rfl)
        first
          | apply Trace.cb [2] [] (callArgs (.plain rfl) (.cons (.plain rfl) (.cons (.plain rfl) .nil))) (FnSpec.nil (l := 2) (A1 := []) (A2 := [(Val.mk 1 n s l).av]) (spec50 [] n s l h1 (by simp)) rfl (by simp [Col.len]) rfl rfl rfl rfl) en50 .nil rfl rfl
          | apply Trace.cb [2] [] (callArgs (.plain rfl) (.cons (.plain rfl) (.cons (.plain rfl) .nil))) (FnSpec.nil (l := 2) (A1 := []) (A2 := [(Val.mk 2 n s l).av]) (spec53 [] n s l h2 (by rw [Val.enc_text] at hl; simp [bytesI_length] at hl; simp; omega)) rfl (by simp [Col.len]) rfl rfl rfl rfl) en53 .nil rfl rfl
          | apply Trace.cb [2] [bk 0, bk 1] (callArgs (.plain rfl) (.cons (.plain rfl) (.cons (.plain rfl) .nil))) (FnSpec.nil (l := 2) (A1 := []) (A2 := [(Val.mk 3 n s l).av, .loc 1 0]) (spec54 _ hz hf rfl [] (by simp; omega)) rfl (by simp [Col.len]) rfl rfl rfl rfl) en54 (.cons rfl (.cons rfl .nil)) rfl rfl
        apply Trace.pu [] (.assign (.plain rfl))
        apply Trace.pu [] (.assign (.plain rfl))
        exact .nil _
      · rfl
      · exact keepOK_of hk hn rfl
      refine WPA.ghost (Ghost.freeze' (t := 2) rfl rfl) ?_
      apply WPA.ret
      refine ⟨.inr rfl, ⟨_, (.cons (.tmp rfl) (.cons (.tmp rfl) .nil)), ?_⟩, by simp [St.get]⟩
      rw [he]; rfl

end Go.Proofs.YtmdfamnnnoieaaaDoor


/- How many parts a value has; what few parts say of its encoding. Plain Lean, no program in sight. -/
namespace Go.Proofs.YtmdfamnnnoieaaaDoor
open Go

mutual
def Val.count : Val → Int → Int
  | .mk _ _ s l, d => if d < 0 ∨ 150 < l.length then 1000 else Val.counts l (d - 1) (1 + ((s.size / 200 : Nat) : Int))
def Val.counts : List Val → Int → Int → Int
  | [], _, n => n
  | x :: r, d, n => if n ≤ 1000 then Val.counts r d (n + x.count d) else n
end
end Go.Proofs.YtmdfamnnnoieaaaDoor

/- Equality of values. Plain Lean, no program in sight. -/
namespace Go.Proofs.YtmdfamnnnoieaaaDoor
open Go

mutual
def Val.same : Val → Val → Bool
  | .mk k n s l, .mk k' n' s' l' => decide (k = k') && decide (n = n') && decide (s = s') && Val.sames l l'
def Val.sames : List Val → List Val → Bool
  | [], [] => true
  | x :: r, y :: r' => Val.same x y && Val.sames r r'
  | _, _ => false
end
end Go.Proofs.YtmdfamnnnoieaaaDoor

/- Reading values out of bytes: what is read, and that it is just what was encoded. Plain Lean, no program in sight. -/
namespace Go.Proofs.YtmdfamnnnoieaaaDoor
open Go

def Bytes (xs : List Int) : Prop := ∀ x ∈ xs, 0 ≤ x ∧ x < 256

def bytesOf (l : List Int) : ByteArray := ⟨(l.map fun x => UInt8.ofNat x.toNat).toArray⟩
/-- What a reader of values hands back is well-formed, of the levels that are allowed, and its encoding is just what was read. -/
structure Read (xs : List Int) (d p : Nat) (v : Val) (q : Nat) : Prop where
  formed : v.formed = true
  depth : v.depth ≤ d
  sz : v.Sz
  enc : xs.drop p = v.enc ++ xs.drop q
  le : q ≤ xs.length
  lt : p < q

/-! Equal values. -/
mutual
theorem Val.same_refl : ∀ v : Val, Val.same v v = true
  | .mk k n s l => by simp [Val.same, Val.sames_refl l]
theorem Val.sames_refl : ∀ l : List Val, Val.sames l l = true
  | [] => rfl
  | x :: r => by simp [Val.sames, Val.same_refl x, Val.sames_refl r]
end
mutual
theorem Val.same_eq : ∀ {v w : Val}, Val.same v w = true → v = w
  | .mk k n s l, .mk k' n' s' l', h => by
    simp only [Val.same, Bool.and_eq_true, decide_eq_true_eq] at h
    obtain ⟨⟨⟨rfl, rfl⟩, rfl⟩, h⟩ := h
    rw [Val.sames_eq h]
theorem Val.sames_eq : ∀ {l m : List Val}, Val.sames l m = true → l = m
  | [], [], _ => rfl
  | [], _ :: _, h => by simp [Val.sames] at h
  | _ :: _, [], h => by simp [Val.sames] at h
  | x :: r, y :: t, h => by
    simp only [Val.sames, Bool.and_eq_true] at h
    rw [Val.same_eq h.1, Val.sames_eq h.2]
end

end Go.Proofs.YtmdfamnnnoieaaaDoor

/- Bits of numerals that are read. Plain Lean, no program in sight. -/
namespace Go.Proofs.YtmdfamnnnoieaaaDoor
open Go

/-! One step of a numeral. -/
/-! The cells of a list of values, column by column. -/
def Val.num : Val → Int
  | .mk _ n _ _ => n
def Val.str : Val → ByteArray
  | .mk _ _ s _ => s
def Val.sub : Val → List Val
  | .mk _ _ _ l => l
def valCols (l : List Val) : List Col := [.ints .i64 (l.map Val.kind), .ints .i64 (l.map Val.num), .ds (l.map fun v => .v (.string v.str)), .ds (l.map fun v => .rows 4 v.sub.length (Val.row v.sub))]
theorem valCols_snoc (l : List Val) (k n : Int) (s : ByteArray) (m : List Val) : joined (valCols l) [.ints .i64 [k], .ints .i64 [n], .ds [.v (.string s)], .ds [.rows 4 m.length (Val.row m)]] = valCols (l ++ [.mk k n s m]) := by
  simp [joined, catCols, Col.cat, valCols, Val.kind, Val.num, Val.str, Val.sub]
theorem valCols_row (l : List Val) (i : Nat) (h : i < l.length) : (valCols l).map (Col.at · i) = Val.row l i := by
  rw [Val.row_get l i l[i] (List.getElem?_eq_getElem h)]
  rcases hv : l[i] with ⟨k, n, s, m⟩
  simp [valCols, Col.at, List.getD, List.getElem?_eq_getElem h, hv, Val.cells, Val.kind, Val.num, Val.str, Val.sub]
theorem valCols_len (l : List Val) : ∀ c ∈ valCols l, c.len = l.length := by
  intro c hc
  simp [valCols] at hc
  rcases hc with rfl | rfl | rfl | rfl <;> simp [Col.len]

end Go.Proofs.YtmdfamnnnoieaaaDoor

/- Digests in order; takes; the comparison of bytes. No program in sight. -/
namespace Go.Proofs.YtmdfamnnnoieaaaDoor
open Go
set_option linter.unusedVariables false
set_option linter.unusedSimpArgs false

/-! Lists of bytes in order. -/
def ltL : List Int → List Int → Bool
  | [], [] => false
  | [], _ :: _ => true
  | _ :: _, [] => false
  | a :: ar, b :: bs => if a = b then ltL ar bs else decide (a < b)
theorem ltL_irrefl : ∀ a : List Int, ltL a a = false
  | [] => rfl
  | a :: ar => by simp [ltL, ltL_irrefl ar]
theorem ltL_trans : ∀ {a b c : List Int}, ltL a b = true → ltL b c = true → ltL a c = true
  | [], b, [], h, k => by cases b <;> simp [ltL] at h k
  | [], _, _ :: _, _, _ => rfl
  | _ :: _, [], _, h, _ => by simp [ltL] at h
  | _ :: _, _ :: _, [], _, k => by simp [ltL] at k
  | a :: ar, b :: bs, c :: cs, h, k => by
    simp only [ltL] at h k ⊢
    by_cases h1 : a = b
    · subst h1
      rw [if_pos rfl] at h
      by_cases h2 : a = c
      · rw [if_pos h2] at k ⊢; exact ltL_trans h k
      · rw [if_neg h2] at k ⊢; exact k
    · rw [if_neg h1] at h
      by_cases h2 : b = c
      · subst h2
        rw [if_neg h1]
        exact h
      · rw [if_neg h2] at k
        simp at h k
        rw [if_neg (by omega)]
        simp
        omega
theorem ltL_asymm {a b : List Int} (h : ltL a b = true) : ltL b a = false := by
  cases k : ltL b a with
  | false => rfl
  | true => rw [ltL_trans h k |>.symm.trans (ltL_irrefl a)] 
theorem ltL_total : ∀ {a b : List Int}, ltL a b = false → ltL b a = false → a = b
  | [], [], _, _ => rfl
  | [], _ :: _, h, _ => by simp [ltL] at h
  | _ :: _, [], _, h => by simp [ltL] at h
  | a :: ar, b :: bs, h, k => by
    simp only [ltL] at h k
    by_cases h1 : a = b
    · subst h1
      rw [if_pos rfl] at h k
      rw [ltL_total h k]
    · rw [if_neg h1] at h
      rw [if_neg (Ne.symm h1)] at k
      simp at h k
      omega
theorem ltL_ne {a b : Int} {ar bs : List Int} (h : ¬ a = b) : ltL (a :: ar) (b :: bs) = decide (a < b) := by simp only [ltL, if_neg h]
theorem ltL_eq {a : Int} {ar bs : List Int} : ltL (a :: ar) (a :: bs) = ltL ar bs := by simp only [ltL, if_true]
def cmpD (a b : List Int) : Int := if ltL a b then -1 else if ltL b a then 1 else 0
/-- Bytes. -/
def Byt (l : List Int) : Prop := ∀ x ∈ l, 0 ≤ x ∧ x < 256
def b8 (x : Int) : UInt8 := UInt8.ofNat x.toNat
theorem b8_lt {x y : Int} (h : 0 ≤ x ∧ x < 256) (k : 0 ≤ y ∧ y < 256) : (b8 x < b8 y) ↔ x < y := by
  unfold b8
  rw [UInt8.lt_iff_toNat_lt, UInt8.toNat_ofNat', UInt8.toNat_ofNat']
  omega
theorem compare_eq : ∀ {a b : List Int}, Byt a → Byt b → Lib.compareBytes (a.map b8) (b.map b8) = cmpD a b
  | [], [], _, _ => rfl
  | [], _ :: _, _, _ => rfl
  | _ :: _, [], _, _ => rfl
  | a :: ar, b :: bs, ha, hb => by
    have h1 := ha a (by simp)
    have h2 := hb b (by simp)
    have ih := compare_eq (a := ar) (b := bs) (fun x hx => ha x (by simp [hx])) (fun x hx => hb x (by simp [hx]))
    simp only [List.map_cons, Lib.compareBytes, b8_lt h1 h2, b8_lt h2 h1, ih, cmpD]
    by_cases he : a = b
    · subst he
      rw [ltL_eq, ltL_eq]
      simp
    · rw [ltL_ne he, ltL_ne (Ne.symm he)]
      by_cases hlt : a < b
      · simp [hlt]
      · have : b < a := by omega
        simp [hlt, this]
theorem cmpD_zero {a b : List Int} : cmpD a b = 0 ↔ a = b := by
  unfold cmpD
  cases h : ltL a b with
  | true =>
    simp
    intro e; subst e; rw [ltL_irrefl] at h; cases h
  | false =>
    cases k : ltL b a with
    | true =>
      simp
      intro e; subst e; rw [ltL_irrefl] at k; cases k
    | false => simp [ltL_total h k]
theorem cmpD_neg {a b : List Int} : cmpD a b < 0 ↔ ltL a b = true := by
  unfold cmpD
  cases h : ltL a b with
  | true => simp
  | false => simp; split <;> omega
theorem cmpD_pos {a b : List Int} : 0 < cmpD a b ↔ ltL b a = true := by
  unfold cmpD
  cases h : ltL a b with
  | true => simp [ltL_asymm h]
  | false => simp; cases ltL b a <;> simp

section
variable {P : Program} {S : St} {c : Bool} {x y : Operand} {ty : TypeId} {pos : String} {af : Array Edge} {gd : Option (Nat × Bool)} {d : Option Nat}
theorem bytesOf_rows {P : Program} {E : Env} {V : Vals} {M : Mem} {a : Act} {w : World} {o : Oper} {bl : List Nat} (h : Given E S o bl c V M a w) {z : Operand} {n : Nat} {g : Nat → List D} {xs : List Int} (hz : z ∈ o.op.operands) (e : Ev S c z (.d (.rows 1 n g))) (hl : xs.length = n) (hg : ∀ i, i < n → g i = [.v (.int .u8 (xs.getD i 0))]) :
    (Extern.Bytes.bytesOf (a.eval z)).run P w = .ok ⟨(xs.map b8).toArray⟩ w := by
  have hd := h.opd z hz _ e
  generalize a.eval z = v at hd
  cases hd with
  | d _ _ hd =>
    cases hd with
    | emp _ _ ad cap =>
      have : xs = [] := List.length_eq_zero_iff.1 hl
      subst this
      cases ad with
      | none => rfl
      | some ad => simp [Extern.Bytes.bytesOf, loadBytes]; rfl
    | rows _ _ _ b o' cap hc hlen cc hm hden =>
      have hcell : ∀ j x, xs[j]? = some x → w.cell? ((⟨b, o', none⟩ : Addr).add j) = some (.int .u8 x) := fun j x hj => by
        have hjl : j < n := by rw [← hl]; exact (List.getElem?_eq_some_iff.1 hj).1
        have h1 := hm j 0 hjl (by omega)
        have h2 := hden j 0 (.v (.int .u8 (xs.getD j 0))) hjl (by rw [hg j hjl]; rfl)
        generalize cc j 0 = u at h1 h2
        cases h2
        rw [addr_add]
        simp only [Nat.mul_one, Nat.add_zero] at h1
        rw [h.mem _ _ _ h1, List.getD_eq_getElem?_getD, hj]
        rfl
      have := Lib.run_loadBytesX (P := P) w xs ⟨b, o', none⟩ .empty hcell
      rw [hl] at this
      show (Extern.Bytes.loadBytes ⟨b, o', none⟩ n .empty).run P w = _
      rw [this]
      congr 2
      simp [Lib.bytesOf, b8]
/-- bytealg.Compare of immutable bytes. -/
theorem Pure.cmpBytes {f : FuncId} {fn : Func} {ts : Array TypeId} {m n : Nat} {g g' : Nat → List D} {xs ys : List Int} (hf : P.funcs[f]? = some fn) (h1 : (fn.name == "runtime.NumGoroutine") = false) (h2 : fn.body.isNone = true) (h3 : Extern.findNext fn = none) (h4 : Extern.find fn = some Extern.BytealgCompare.compare)
    (e1 : Ev S c x (.d (.rows 1 m g))) (e2 : Ev S c y (.d (.rows 1 n g'))) (hx : xs.length = m) (hy : ys.length = n) (hgx : ∀ i, i < m → g i = [.v (.int .u8 (xs.getD i 0))]) (hgy : ∀ i, i < n → g' i = [.v (.int .u8 (ys.getD i 0))]) (bx : Byt xs) (by_ : Byt ys) :
    Pure P S [] ⟨d, .call ⟨.value (.func f), #[x, y], ts⟩, ty, pos, af, gd⟩ c (iv .i64 (cmpD xs ys)) := by
  refine ⟨(fun _ h => nomatch h), fun E V M a w hg hc => ?_⟩
  have q1 := bytesOf_rows (P := P) hg (by simp [Op.operands, Call.operands]) e1 hx hgx
  have q2 := bytesOf_rows (P := P) hg (by simp [Op.operands, Call.operands]) e2 hy hgy
  have hev : a.eval (.func f) = .func (.func f) #[] #[] := rfl
  generalize a.eval = ρ at *
  refine ⟨.int .i64 (cmpD xs ys), ?_, .d _ _ (.v _)⟩
  have hcmp : (Extern.BytealgCompare.compare #[ρ x, ρ y]).run P w = .ok (.int .i64 (cmpD xs ys)) w := by
    change Sem.run P (do pure (goInt (Extern.BytealgCompare.cmp (← Extern.Bytes.bytesOf (ρ x)) (← Extern.Bytes.bytesOf (ρ y))))) w = _
    simp only [Sem.run_bind, q1, q2, Result.andThen, Sem.run_pure]
    rw [Lib.cmp_eq, compare_eq bx by_]
    rfl
  have hcf := run_callFunc_extern hf h1 h2 h3 h4 #[ρ x, ρ y] w
  rw [hcmp] at hcf
  simp only [execOp, resolve, hev, Deferred.ofValue, Sem.run_bind, Sem.run_pure, Result.andThen, Array.empty_append, Array.append_empty, invoke]
  simpa using hcf
end

/-! Takes. -/
structure Tk where
  d : List Int
  xs : List Int
  deriving DecidableEq
instance : Inhabited Tk := ⟨⟨[], []⟩⟩
def intsD (xs : List Int) : D := .rows 1 xs.length fun i => [.v (.int .i64 (xs.getD i 0))]
def Tk.cells (t : Tk) : List D := (t.d.map fun x => .v (.int .u8 x)) ++ [intsD t.xs]
def tkRow (ts : List Tk) (i : Nat) : List D := (ts.getD i default).cells
abbrev tksD (ts : List Tk) : D := .rows 33 ts.length (tkRow ts)
abbrev poolD (ts : List Tk) : D := .agg [tksD ts]
structure Tk.Ok (t : Tk) : Prop where
  len : t.d.length = 32
  byt : Byt t.d
  big : ∀ x ∈ t.xs, -9223372036854775808 ≤ x ∧ x ≤ 9223372036854775807
  few : t.xs.length ≤ 1000
def tkCols (ts : List Tk) : List Col := ((List.range 32).map fun j => .ints .u8 (ts.map fun t => t.d.getD j 0)) ++ [.ds (ts.map fun t => intsD t.xs)]
theorem Tk.cells_length {t : Tk} (h : t.d.length = 32) : t.cells.length = 33 := by simp [Tk.cells, h]
theorem tkCols_length (ts : List Tk) : (tkCols ts).length = 33 := by simp [tkCols]
theorem tkCols_len (ts : List Tk) : ∀ c ∈ tkCols ts, c.len = ts.length := by
  intro c hc
  simp only [tkCols, List.mem_append, List.mem_map, List.mem_range, List.mem_singleton] at hc
  rcases hc with ⟨j, _, rfl⟩ | rfl <;> simp [Col.len]
theorem tkCols_row {ts : List Tk} (h : ∀ t ∈ ts, t.Ok) {i : Nat} (hi : i < ts.length) : (tkCols ts).map (Col.at · i) = tkRow ts i := by
  have ho := h ts[i] (List.getElem_mem hi)
  have hl := ho.len
  have e : ts.getD i default = ts[i] := by simp [List.getD_eq_getElem?_getD, hi]
  unfold tkRow tkCols Tk.cells
  rw [e, List.map_append, List.map_map]
  congr 1
  · refine List.ext_getElem (by simp [hl]) fun j h1 h2 => ?_
    simp only [List.length_map, List.length_range] at h1
    have hj : j < ts[i].d.length := by omega
    simp [Col.at, List.getD_eq_getElem?_getD, hi, hj]
  · simp [Col.at, List.getD_eq_getElem?_getD, hi]
theorem tkCols_cat (a b : List Tk) : joined (tkCols a) (tkCols b) = tkCols (a ++ b) := by
  have key : ∀ (l : List Nat) (u v : List Col), u.length = v.length → catCols ((l.map fun j => Col.ints .u8 (a.map fun t => t.d.getD j 0)) ++ u) ((l.map fun j => Col.ints .u8 (b.map fun t => t.d.getD j 0)) ++ v) = (l.map fun j => Col.ints .u8 ((a ++ b).map fun t => t.d.getD j 0)) ++ catCols u v := by
    intro l u v huv
    induction l with
    | nil => rfl
    | cons j r ih => simp only [List.map_cons, List.cons_append, catCols, ih, Col.cat, if_true, List.map_append]
  have hne : ∀ l : List Col, l ≠ [] → ∀ m, joined l m = catCols l m := fun l hl m => by cases l with | nil => exact absurd rfl hl | cons => rfl
  rw [hne _ (by simp [tkCols])]
  unfold tkCols
  refine (key (List.range 32) [.ds (a.map fun t => intsD t.xs)] [.ds (b.map fun t => intsD t.xs)] rfl).trans ?_
  simp [catCols, Col.cat]
theorem tkCols_one (ts : List Tk) : ∀ c ∈ tkCols ts, c.oneB = true := by
  intro c hc
  simp only [tkCols, List.mem_append, List.mem_map, List.mem_range, List.mem_singleton] at hc
  rcases hc with ⟨j, _, rfl⟩ | rfl
  · rfl
  · simp [Col.oneB, AV.oneB, intsD]

end Go.Proofs.YtmdfamnnnoieaaaDoor
