/- Operations that only compute, on abstract values: numbers, strings, parts of structs, closures. No program in sight. -/
import Derived.Test.YtcnikeonaklkoaaWp
import Derived.WalkKit
namespace Go.Proofs.Ytcnikeonaklkoaa
open Go
set_option linter.unusedVariables false
set_option linter.unusedSimpArgs false
variable {P : Program} {S : St} {c : Bool}

abbrev iv (k : IntKind) (n : Int) : AV := .d (.v (.int k n))
abbrev bv (b : Bool) : AV := .d (.v (.bool b))
abbrev sv (s : ByteArray) : AV := .d (.v (.string s))
abbrev nilS : AV := .d (.v (.slice none 0 0))

theorem den_v {V : Vals} {M : Mem} {u v : Value} (h : Den V M (.d (.v u)) v) : v = u := by
  cases h with | d _ _ h => cases h; rfl

theorem Given.val {E : Env} {V : Vals} {M : Mem} {a : Act} {w : World} {o : Oper} {bl : List Nat} (h : Given E S o bl c V M a w) {x : Operand} {u : Value} (hx : x ∈ o.op.operands) (e : Ev S c x (.d (.v u))) : a.eval x = u :=
  den_v (h.opd x hx _ e)

theorem IntKind.wrap_in (k : IntKind) (n : Int) (h : k.min ≤ n ∧ n ≤ k.max) : k.wrap n = n := by
  obtain ⟨h1, h2⟩ := h
  unfold IntKind.wrap
  cases k <;> simp [IntKind.min, IntKind.max, IntKind.signed, IntKind.bits] at * <;> first | (split <;> omega) | omega

theorem bd64 {r : Int} (h : -9223372036854775808 ≤ r ∧ r ≤ 9223372036854775807) : IntKind.min .i64 ≤ r ∧ r ≤ IntKind.max .i64 := by
  simpa [IntKind.min, IntKind.max, IntKind.signed, IntKind.bits] using h

section
variable {o : Oper} {x y z : Operand} {d : Option Tmp} {ty t t' : TypeId} {pos : String} {af : Array Edge} {gd : Option (Nat × Bool)}

theorem Pure.move {r : AV} (e : Ev S c x r) : Pure P S [] ⟨d, .move x, ty, pos, af, gd⟩ c r :=
  ⟨(fun _ h => nomatch h), fun E V M a w h _ => ⟨a.eval x, rfl, h.opd x (by simp [Op.operands]) _ e⟩⟩
theorem Pure.assign {r : AV} (e : Ev S c x r) : Pure P S [] ⟨d, .assign x, ty, pos, af, gd⟩ c r :=
  ⟨(fun _ h => nomatch h), fun E V M a w h _ => ⟨a.eval x, rfl, h.opd x (by simp [Op.operands]) _ e⟩⟩

theorem Pure.pick {b p q : Bool} (e1 : Ev S c x (bv b)) (e2 : Ev S (c && b) y (bv p)) (e3 : Ev S (c && !b) z (bv q)) : Pure P S [] ⟨d, .pick x y z, ty, pos, af, gd⟩ c (bv (bif b then p else q)) := by
  refine ⟨(fun _ h => nomatch h), fun E V M a w h hc => ?_⟩
  have h1 := h.val (by simp [Op.operands]) e1
  subst hc
  cases b with
  | true =>
    have h2 : a.eval y = .bool p := h.val (by simp [Op.operands]) (by simpa using e2)
    generalize a.eval = ρ at *
    exact ⟨.bool p, by simp [execOp, h1, h2, asBool, go_sem], .d _ _ (.v _)⟩
  | false =>
    have h2 : a.eval z = .bool q := h.val (by simp [Op.operands]) (by simpa using e3)
    generalize a.eval = ρ at *
    exact ⟨.bool q, by simp [execOp, h1, h2, asBool, go_sem], .d _ _ (.v _)⟩

def arith : BinOp → Int → Int → Option Int
  | .add, m, n => some (m + n)
  | .sub, m, n => some (m - n)
  | .mul, m, n => some (m * n)
  | _, _, _ => none
/-- + - *, whatever comes. -/
theorem Pure.arithW {op : BinOp} {k : IntKind} {m n r : Int} (e1 : Ev S c x (iv k m)) (e2 : Ev S c y (iv k n)) (hr : arith op m n = some r) : Pure P S [] ⟨d, .binOp op t x y t', ty, pos, af, gd⟩ c (iv k (k.wrap r)) := by
  refine ⟨(fun _ h => nomatch h), fun E V M a w h hc => ?_⟩
  have h1 := h.val (by simp [Op.operands]) e1
  have h2 := h.val (by simp [Op.operands]) e2
  generalize a.eval = ρ at *
  refine ⟨_, ?_, .d _ _ (.v _)⟩
  cases op <;> simp only [arith, reduceCtorEq, Option.some.injEq] at hr <;> subst hr <;> simp [execOp, h1, h2, eqGuard, binOp, Op.intArith, go_sem]
/-- + - *, within the kind's bounds. -/
theorem Pure.arith {op : BinOp} {k : IntKind} {m n r : Int} (e1 : Ev S c x (iv k m)) (e2 : Ev S c y (iv k n)) (hr : arith op m n = some r) (hb : c = true → k.min ≤ r ∧ r ≤ k.max) : Pure P S [] ⟨d, .binOp op t x y t', ty, pos, af, gd⟩ c (iv k r) := by
  have := Pure.arithW (P := P) (d := d) (t := t) (t' := t') (ty := ty) (pos := pos) (af := af) (gd := gd) e1 e2 hr
  refine ⟨this.1, fun E V M a w h hc => ?_⟩
  have h2 := this.2 E V M a w h hc
  rwa [IntKind.wrap_in k r (hb hc)] at h2

def icmp : BinOp → Int → Int → Option Bool
  | .eql, m, n => some (decide (m = n))
  | .neq, m, n => some (!decide (m = n))
  | .lss, m, n => some (decide (m < n))
  | .leq, m, n => some (decide (m ≤ n))
  | .gtr, m, n => some (decide (n < m))
  | .geq, m, n => some (decide (n ≤ m))
  | _, _, _ => none
theorem Pure.cmp {op : BinOp} {k : IntKind} {m n : Int} {r : Bool} (e1 : Ev S c x (iv k m)) (e2 : Ev S c y (iv k n)) (hr : icmp op m n = some r) : Pure P S [] ⟨d, .binOp op t x y t', ty, pos, af, gd⟩ c (bv r) := by
  refine ⟨(fun _ h => nomatch h), fun E V M a w h hc => ?_⟩
  have h1 := h.val (by simp [Op.operands]) e1
  have h2 := h.val (by simp [Op.operands]) e2
  generalize a.eval = ρ at *
  refine ⟨_, ?_, .d _ _ (.v _)⟩
  cases op <;> simp only [icmp, reduceCtorEq, Option.some.injEq] at hr <;> subst hr <;> simp [execOp, h1, h2, eqGuard, binOp, Op.intCmp, go_sem, bne] <;> rfl

def ibits : BinOp → (k : IntKind) → Int → Int → Option Int
  | .and, k, m, n => some (k.wrap (BitVec.ofInt k.bits m &&& BitVec.ofInt k.bits n).toNat)
  | .or, k, m, n => some (k.wrap (BitVec.ofInt k.bits m ||| BitVec.ofInt k.bits n).toNat)
  | .xor, k, m, n => some (k.wrap (BitVec.ofInt k.bits m ^^^ BitVec.ofInt k.bits n).toNat)
  | .andNot, k, m, n => some (k.wrap (BitVec.ofInt k.bits m &&& ~~~ BitVec.ofInt k.bits n).toNat)
  | _, _, _, _ => none
theorem Pure.bits {op : BinOp} {k : IntKind} {m n r : Int} (e1 : Ev S c x (iv k m)) (e2 : Ev S c y (iv k n)) (hr : ibits op k m n = some r) : Pure P S [] ⟨d, .binOp op t x y t', ty, pos, af, gd⟩ c (iv k r) := by
  refine ⟨(fun _ h => nomatch h), fun E V M a w h hc => ?_⟩
  have h1 := h.val (by simp [Op.operands]) e1
  have h2 := h.val (by simp [Op.operands]) e2
  generalize a.eval = ρ at *
  refine ⟨_, ?_, .d _ _ (.v _)⟩
  cases op <;> simp only [ibits, reduceCtorEq, Option.some.injEq] at hr <;> subst hr <;> simp [execOp, h1, h2, eqGuard, binOp, Op.intBits, go_sem] <;> rfl

theorem Pure.shl {k k' : IntKind} {m n : Int} (e1 : Ev S c x (iv k m)) (e2 : Ev S c y (iv k' n)) (h0 : c = true → 0 ≤ n) : Pure P S [] ⟨d, .binOp .shl t x y t', ty, pos, af, gd⟩ c (iv k (k.wrap (m * 2 ^ (min n.toNat k.bits)))) := by
  refine ⟨(fun _ h => nomatch h), fun E V M a w h hc => ?_⟩
  have h1 := h.val (by simp [Op.operands]) e1
  have h2 := h.val (by simp [Op.operands]) e2
  have hn : ¬ n < 0 := by have := h0 hc; omega
  generalize a.eval = ρ at *
  refine ⟨_, ?_, .d _ _ (.v _)⟩
  simp [execOp, h1, h2, eqGuard, binOp, Op.shift, hn, go_sem]
theorem Pure.shr {k k' : IntKind} {m n : Int} (e1 : Ev S c x (iv k m)) (e2 : Ev S c y (iv k' n)) (h0 : c = true → 0 ≤ n) : Pure P S [] ⟨d, .binOp .shr t x y t', ty, pos, af, gd⟩ c (iv k (m.fdiv (2 ^ (min n.toNat k.bits)))) := by
  refine ⟨(fun _ h => nomatch h), fun E V M a w h hc => ?_⟩
  have h1 := h.val (by simp [Op.operands]) e1
  have h2 := h.val (by simp [Op.operands]) e2
  have hn : ¬ n < 0 := by have := h0 hc; omega
  generalize a.eval = ρ at *
  refine ⟨_, ?_, .d _ _ (.v _)⟩
  simp [execOp, h1, h2, eqGuard, binOp, Op.shift, hn, go_sem]

theorem Pure.quo {k : IntKind} {m n : Int} (e1 : Ev S c x (iv k m)) (e2 : Ev S c y (iv k n)) (h0 : c = true → n ≠ 0) : Pure P S [] ⟨d, .binOp .quo t x y t', ty, pos, af, gd⟩ c (iv k (k.wrap (m.tdiv n))) := by
  refine ⟨(fun _ h => nomatch h), fun E V M a w h hc => ?_⟩
  have h1 := h.val (by simp [Op.operands]) e1
  have h2 := h.val (by simp [Op.operands]) e2
  generalize a.eval = ρ at *
  refine ⟨_, ?_, .d _ _ (.v _)⟩
  simp [execOp, h1, h2, eqGuard, binOp, Op.intDiv, h0 hc, go_sem]
theorem Pure.rem {k : IntKind} {m n : Int} (e1 : Ev S c x (iv k m)) (e2 : Ev S c y (iv k n)) (h0 : c = true → n ≠ 0) : Pure P S [] ⟨d, .binOp .rem t x y t', ty, pos, af, gd⟩ c (iv k (m.tmod n)) := by
  refine ⟨(fun _ h => nomatch h), fun E V M a w h hc => ?_⟩
  have h1 := h.val (by simp [Op.operands]) e1
  have h2 := h.val (by simp [Op.operands]) e2
  generalize a.eval = ρ at *
  refine ⟨_, ?_, .d _ _ (.v _)⟩
  simp [execOp, h1, h2, eqGuard, binOp, Op.intDiv, h0 hc, go_sem]

/-- Two bools. -/
theorem Pure.beq {p q : Bool} (hu : P.underlying t = some .bool) (e1 : Ev S c x (bv p)) (e2 : Ev S c y (bv q)) : Pure P S [] ⟨d, .binOp .eql t x y t', ty, pos, af, gd⟩ c (bv (p == q)) := by
  refine ⟨(fun _ h => nomatch h), fun E V M a w h hc => ?_⟩
  have h1 := h.val (by simp [Op.operands]) e1
  have h2 := h.val (by simp [Op.operands]) e2
  generalize a.eval = ρ at *
  refine ⟨_, ?_, .d _ _ (.v _)⟩
  simp only [execOp, h1, h2, eqGuard]
  simp [run_eql_bool, run_neq_bool, hu, go_sem]
theorem Pure.bne {p q : Bool} (hu : P.underlying t = some .bool) (e1 : Ev S c x (bv p)) (e2 : Ev S c y (bv q)) : Pure P S [] ⟨d, .binOp .neq t x y t', ty, pos, af, gd⟩ c (bv (!(p == q))) := by
  refine ⟨(fun _ h => nomatch h), fun E V M a w h hc => ?_⟩
  have h1 := h.val (by simp [Op.operands]) e1
  have h2 := h.val (by simp [Op.operands]) e2
  generalize a.eval = ρ at *
  refine ⟨_, ?_, .d _ _ (.v _)⟩
  simp only [execOp, h1, h2, eqGuard]
  simp [run_eql_bool, run_neq_bool, hu, go_sem]

theorem toList_beq (p q : ByteArray) : (p.toList == q.toList) = decide (p = q) := by
  have key : ∀ (a b : ByteArray), a.toList = b.toList → a = b := by
    intro a b h
    rw [ByteArray.toList_eq, ByteArray.toList_eq] at h
    exact ByteArray.ext (Array.toList_inj.1 h)
  rw [Bool.eq_iff_iff]
  simp only [beq_iff_eq, decide_eq_true_eq]
  exact ⟨key p q, fun h => by rw [h]⟩
theorem Pure.seq {p q : ByteArray} (e1 : Ev S c x (sv p)) (e2 : Ev S c y (sv q)) : Pure P S [] ⟨d, .binOp .eql t x y t', ty, pos, af, gd⟩ c (bv (decide (p = q))) := by
  refine ⟨(fun _ h => nomatch h), fun E V M a w h hc => ?_⟩
  have h1 := h.val (by simp [Op.operands]) e1
  have h2 := h.val (by simp [Op.operands]) e2
  generalize a.eval = ρ at *
  refine ⟨_, ?_, .d _ _ (.v _)⟩
  simp only [execOp, h1, h2, eqGuard, binOp, Op.stringOp, toList_beq]
  simp [go_sem]
theorem Pure.sne {p q : ByteArray} (e1 : Ev S c x (sv p)) (e2 : Ev S c y (sv q)) : Pure P S [] ⟨d, .binOp .neq t x y t', ty, pos, af, gd⟩ c (bv (!decide (p = q))) := by
  refine ⟨(fun _ h => nomatch h), fun E V M a w h hc => ?_⟩
  have h1 := h.val (by simp [Op.operands]) e1
  have h2 := h.val (by simp [Op.operands]) e2
  generalize a.eval = ρ at *
  refine ⟨_, ?_, .d _ _ (.v _)⟩
  simp only [execOp, h1, h2, eqGuard, binOp, Op.stringOp, toList_beq]
  simp [go_sem]

theorem Pure.not {p : Bool} (e1 : Ev S c x (bv p)) : Pure P S [] ⟨d, .unOp .not t x, ty, pos, af, gd⟩ c (bv (!p)) := by
  refine ⟨(fun _ h => nomatch h), fun E V M a w h hc => ?_⟩
  have h1 := h.val (by simp [Op.operands]) e1
  generalize a.eval = ρ at *
  refine ⟨_, ?_, .d _ _ (.v _)⟩
  simp [execOp, h1, Op.unary, go_sem]
theorem Pure.neg {k : IntKind} {m : Int} (e1 : Ev S c x (iv k m)) (hb : c = true → k.min ≤ -m ∧ -m ≤ k.max) : Pure P S [] ⟨d, .unOp .neg t x, ty, pos, af, gd⟩ c (iv k (-m)) := by
  refine ⟨(fun _ h => nomatch h), fun E V M a w h hc => ?_⟩
  have h1 := h.val (by simp [Op.operands]) e1
  generalize a.eval = ρ at *
  refine ⟨_, ?_, .d _ _ (.v _)⟩
  have : k.wrap (0 - m) = -m := by rw [show (0 : Int) - m = -m by omega]; exact IntKind.wrap_in k _ (hb hc)
  simp [execOp, h1, Op.unary, Op.intArith, go_sem, IntKind.wrap_in k _ (hb hc)]
/-- ^x. -/
theorem Pure.inv {k : IntKind} {m r : Int} (e1 : Ev S c x (iv k m)) (hr : ibits .xor k (if k.signed then -1 else k.max) m = some r) : Pure P S [] ⟨d, .unOp .xor t x, ty, pos, af, gd⟩ c (iv k r) := by
  refine ⟨(fun _ h => nomatch h), fun E V M a w h hc => ?_⟩
  have h1 := h.val (by simp [Op.operands]) e1
  generalize a.eval = ρ at *
  refine ⟨_, ?_, .d _ _ (.v _)⟩
  simp only [ibits, Option.some.injEq] at hr
  subst hr
  simp only [execOp, h1, Op.unary, Op.intBits]
  rfl

theorem Pure.conv {k k' : IntKind} {m : Int} {u : TypeDesc} (h1 : P.underlying t = some u) (h2 : P.underlying t' = some (.int k')) (e1 : Ev S c x (iv k m)) : Pure P S [] ⟨d, .convert t t' x, ty, pos, af, gd⟩ c (iv k' (k'.wrap m)) := by
  refine ⟨(fun _ h => nomatch h), fun E V M a w h hc => ?_⟩
  have h3 := h.val (by simp [Op.operands]) e1
  generalize a.eval = ρ at *
  refine ⟨_, ?_, .d _ _ (.v _)⟩
  simp [execOp, h3, convert, run_underlying h1, run_underlying h2, Conv.intToInt, go_sem]

/-- min and max of two. -/
theorem Pure.min2 {k : IntKind} {m n : Int} {ts : Array TypeId} (e1 : Ev S c x (iv k m)) (e2 : Ev S c y (iv k n)) : Pure P S [] ⟨d, .call ⟨.builtin .min, #[x, y], ts⟩, ty, pos, af, gd⟩ c (iv k (min m n)) := by
  refine ⟨(fun _ h => nomatch h), fun E V M a w h hc => ?_⟩
  have h1 := h.val (by simp [Op.operands, Call.operands]) e1
  have h2 := h.val (by simp [Op.operands, Call.operands]) e2
  generalize a.eval = ρ at *
  refine ⟨_, ?_, .d _ _ (.v _)⟩
  have : (if n < m then n else m) = min m n := by omega
  simp [execOp, resolve, invoke, builtin, Builtin.min_, Builtin.min2, h1, h2, go_sem, this]
theorem Pure.max2 {k : IntKind} {m n : Int} {ts : Array TypeId} (e1 : Ev S c x (iv k m)) (e2 : Ev S c y (iv k n)) : Pure P S [] ⟨d, .call ⟨.builtin .max, #[x, y], ts⟩, ty, pos, af, gd⟩ c (iv k (max m n)) := by
  refine ⟨(fun _ h => nomatch h), fun E V M a w h hc => ?_⟩
  have h1 := h.val (by simp [Op.operands, Call.operands]) e1
  have h2 := h.val (by simp [Op.operands, Call.operands]) e2
  generalize a.eval = ρ at *
  refine ⟨_, ?_, .d _ _ (.v _)⟩
  have : (if m < n then n else m) = max m n := by omega
  simp [execOp, resolve, invoke, builtin, Builtin.max_, Builtin.max2, h1, h2, go_sem, this]

/-- len. -/
theorem Pure.lenS {s : ByteArray} {ts : Array TypeId} (hts : ts[0]? = some t) (hu : P.underlying t = some .string) (e1 : Ev S c x (sv s)) : Pure P S [] ⟨d, .call ⟨.builtin .len, #[x], ts⟩, ty, pos, af, gd⟩ c (iv .i64 s.size) := by
  refine ⟨(fun _ h => nomatch h), fun E V M a w h hc => ?_⟩
  have h1 := h.val (by simp [Op.operands, Call.operands]) e1
  generalize a.eval = ρ at *
  refine ⟨_, ?_, .d _ _ (.v _)⟩
  simp [execOp, resolve, invoke, builtin, Builtin.len_, h1, hts, run_underlying hu, goInt, go_sem]
/-- The length of whatever is a slice. -/
def AV.lenOf : AV → Option Nat
  | .d (.rows _ len _) => some len
  | .d (.v (.slice _ n _)) => some n
  | .own _ len => some len
  | .sl _ _ _ len => some len
  | _ => none
theorem slice_of_lenOf {V : Vals} {M : Mem} {u : AV} {v : Value} {n : Nat} (h : Den V M u v) (hl : u.lenOf = some n) : ∃ a cap, v = .slice a n cap := by
  cases h with
  | d u v h =>
    cases h with
    | v =>
      cases v <;> simp only [AV.lenOf, reduceCtorEq, Option.some.injEq] at hl
      subst hl; exact ⟨_, _, rfl⟩
    | emp => simp only [AV.lenOf, Option.some.injEq] at hl; subst hl; exact ⟨_, _, rfl⟩
    | rows => simp only [AV.lenOf, Option.some.injEq] at hl; subst hl; exact ⟨_, _, rfl⟩
    | agg => simp [AV.lenOf] at hl
  | own => simp only [AV.lenOf, Option.some.injEq] at hl; subst hl; exact ⟨_, _, rfl⟩
  | ownNil => simp only [AV.lenOf, Option.some.injEq] at hl; subst hl; exact ⟨_, _, rfl⟩
  | sl => simp only [AV.lenOf, Option.some.injEq] at hl; subst hl; exact ⟨_, _, rfl⟩
  | slEmp => simp only [AV.lenOf, Option.some.injEq] at hl; subst hl; exact ⟨_, _, rfl⟩
  | _ => simp [AV.lenOf] at hl
theorem Pure.len {u : AV} {n : Nat} {e : TypeId} {ts : Array TypeId} (hts : ts[0]? = some t) (hu : P.underlying t = some (.slice e)) (e1 : Ev S c x u) (hl : u.lenOf = some n) : Pure P S [] ⟨d, .call ⟨.builtin .len, #[x], ts⟩, ty, pos, af, gd⟩ c (iv .i64 n) := by
  refine ⟨(fun _ h => nomatch h), fun E V M a w h hc => ?_⟩
  obtain ⟨b, cap, h1⟩ := slice_of_lenOf (h.opd x (by simp [Op.operands, Call.operands]) _ e1) hl
  generalize a.eval = ρ at *
  refine ⟨_, ?_, .d _ _ (.v _)⟩
  simp [execOp, resolve, invoke, builtin, Builtin.len_, h1, hts, run_underlying hu, goInt, go_sem]

/-- A function's value with what it captured. -/
theorem Pure.func {f : FuncId} {first captured : Array Operand} {cs : List AV} (h0 : first = #[]) (hl : cs.length = captured.size) (e : ∀ (j : Nat) (x : Operand) (y : AV), captured[j]? = some x → cs[j]? = some y → Ev S c x y) :
    Pure P S [] ⟨d, .makeFunc (.func f) first captured, ty, pos, af, gd⟩ c (.fn f cs) := by
  subst h0
  refine ⟨(fun _ h => nomatch h), fun E V M a w h hc => ?_⟩
  refine ⟨.func (.func f) #[] (captured.toList.map a.eval).toArray, by simp [execOp, Instr.makeFunc, go_sem, ← Array.toList_map], .fn f cs _ (by simpa using hl) ?_⟩
  intro j x y hx hy
  simp only [List.getElem?_map, Option.map_eq_some_iff] at hy
  obtain ⟨z, hz, rfl⟩ := hy
  have hz' : captured[j]? = some z := by simpa using hz
  exact h.opd z (by simp only [Op.operands, Array.empty_append]; exact Array.mem_of_getElem? hz') _ (e j z x hz' hx)

/-- A part of a tuple. -/
theorem Pure.extract {l : List AV} {i : Nat} {r : AV} (e1 : Ev S c x (.tup l)) (hr : l[i]? = some r) : Pure P S [] ⟨d, .extract x i, ty, pos, af, gd⟩ c r := by
  refine ⟨(fun _ h => nomatch h), fun E V M a w h hc => ?_⟩
  have h1 := h.opd x (by simp [Op.operands]) _ e1
  generalize he : a.eval x = v at h1
  cases h1 with
  | tup _ vs hl hv =>
    obtain ⟨hi, _⟩ := List.getElem?_eq_some_iff.1 hr
    have hi' : i < vs.length := by omega
    refine ⟨vs[i], ?_, hv i r _ hr (List.getElem?_eq_getElem hi')⟩
    generalize a.eval = ρ at *
    simp [execOp, Instr.extract, he, hi', go_sem]
end

end Go.Proofs.Ytcnikeonaklkoaa
