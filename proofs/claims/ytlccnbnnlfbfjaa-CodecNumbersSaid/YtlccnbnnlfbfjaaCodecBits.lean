/- Bits of numerals that are read. Plain Lean, no program in sight. -/
import Derived.Test.YtlccnbnnlfbfjaaCodecDec
namespace Go.Proofs.Ytlccnbnnlfbfjaa
open Go

theorem and127 {c : Int} (h : 0 ≤ c ∧ c < 256) : IntKind.u8.wrap ((BitVec.ofInt IntKind.u8.bits c &&& BitVec.ofInt IntKind.u8.bits 127).toNat : Int) = (((c % 128).toNat : Nat) : Int) := by
  have key : ∀ c : Fin 256, (BitVec.ofNat 8 c.val &&& 127#8).toNat = c.val % 128 := by decide +kernel
  have h1 := key ⟨c.toNat, by omega⟩
  have e : BitVec.ofInt IntKind.u8.bits c = BitVec.ofNat 8 c.toNat := by
    apply BitVec.eq_of_toNat_eq
    simp [BitVec.toNat_ofInt, IntKind.bits]
    omega
  have e2 : BitVec.ofInt IntKind.u8.bits 127 = 127#8 := by rfl
  rw [e, e2]
  simp only at h1
  show IntKind.u8.wrap (((BitVec.ofNat 8 c.toNat &&& 127#8).toNat : Nat) : Int) = _
  rw [h1, wrap_u8]
  omega
theorem pow128 (i : Nat) : 2 ^ (7 * i) = 128 ^ i := by rw [Nat.pow_mul]
theorem pow128_le {i : Nat} (h : i ≤ 9) : 128 ^ i ≤ 9223372036854775808 := Nat.le_trans (Nat.pow_le_pow_right (by decide) h) (by decide)
theorem pow128_lt {i : Nat} (h : i < 9) : 128 ^ i * 128 ≤ 9223372036854775808 := by
  have := pow128_le (i := i + 1) (by omega)
  rwa [Nat.pow_succ] at this
theorem digit_bd {i d : Nat} (hi : i ≤ 9) (hd : d < 128) (h9 : i = 9 → d ≤ 1) : d * 128 ^ i ≤ 9223372036854775808 := by
  by_cases h : i = 9
  · subst h
    have := h9 rfl
    have : d * 128 ^ 9 ≤ 1 * 128 ^ 9 := Nat.mul_le_mul_right _ this
    simpa using this
  · have h1 := pow128_lt (i := i) (by omega)
    have h2 : d * 128 ^ i ≤ 128 * 128 ^ i := Nat.mul_le_mul_right _ (by omega)
    rw [Nat.mul_comm 128] at h2
    omega
theorem shl7 {i d : Nat} (hi : i ≤ 9) (hd : d < 128) (h9 : i = 9 → d ≤ 1) : IntKind.u64.wrap ((d : Int) * 2 ^ (min (7 * (i : Int)).toNat IntKind.u64.bits)) = ((d * 128 ^ i : Nat) : Int) := by
  have e : min (7 * (i : Int)).toNat IntKind.u64.bits = 7 * i := by
    show min (7 * (i : Int)).toNat 64 = _
    omega
  have h1 := digit_bd hi hd h9
  rw [e]
  have e2 : (d : Int) * 2 ^ (7 * i) = ((d * 128 ^ i : Nat) : Int) := by
    rw [← pow128]; simp
  rw [e2]
  exact wrap_u64_id (by omega)
theorem or_add {i d u : Nat} (hi : i ≤ 9) (hd : d < 128) (h9 : i = 9 → d ≤ 1) (hu : u < 128 ^ i) : IntKind.u64.wrap ((BitVec.ofInt IntKind.u64.bits (u : Int) ||| BitVec.ofInt IntKind.u64.bits ((d * 128 ^ i : Nat) : Int)).toNat : Int) = ((u + d * 128 ^ i : Nat) : Int) := by
  have h1 := digit_bd hi hd h9
  have h2 := pow128_le hi
  have e1 : (BitVec.ofInt IntKind.u64.bits (u : Int)).toNat = u := by
    simp [IntKind.bits]; omega
  have e2 : (BitVec.ofInt IntKind.u64.bits ((d * 128 ^ i : Nat) : Int)).toNat = d * 128 ^ i := by
    rw [BitVec.toNat_ofInt]
    show (((d * 128 ^ i : Nat) : Int) % (2 ^ 64 : Nat)).toNat = _
    omega
  rw [BitVec.toNat_or, e1, e2]
  have e3 : u ||| d * 128 ^ i = u + d * 128 ^ i := by
    have h := Nat.shiftLeft_add_eq_or_of_lt (i := 7 * i) (b := u) (by rw [pow128]; exact hu) d
    rw [Nat.shiftLeft_eq, pow128] at h
    rw [Nat.or_comm, ← h, Nat.add_comm]
  rw [e3]
  exact wrap_u64_id (by omega)

theorem zag_shift {u : Nat} (hu : u < 18446744073709551616) :
    IntKind.i64.wrap ((BitVec.ofInt IntKind.i64.bits (IntKind.i64.wrap ((u : Int).fdiv (2 ^ (min (1 : Int).toNat IntKind.u64.bits)))) ^^^
      BitVec.ofInt IntKind.i64.bits (-((u % 2 : Nat) : Int))).toNat : Int) = zag u := by
  have e1 : (u : Int).fdiv (2 ^ (min (1 : Int).toNat IntKind.u64.bits)) = ((u / 2 : Nat) : Int) := by
    show (u : Int).fdiv 2 = _
    rw [Int.fdiv_eq_ediv_of_nonneg _ (by decide)]; omega
  have e4 : IntKind.i64.wrap ((u / 2 : Nat) : Int) = ((u / 2 : Nat) : Int) := wrap_i64_id (by omega)
  rw [e1, e4]
  by_cases h : u % 2 = 0
  · have e2 : BitVec.ofInt IntKind.i64.bits (-((u % 2 : Nat) : Int)) = 0#64 := by rw [h]; rfl
    rw [e2]
    have e3 : ∀ x : BitVec 64, x ^^^ 0#64 = x := fun x => BitVec.xor_zero
    show IntKind.i64.wrap (((BitVec.ofInt 64 _ ^^^ 0#64 : BitVec 64)).toNat : Int) = _
    rw [e3, BitVec.toNat_ofInt, wrap_i64]
    unfold zag
    rw [if_pos h]
    split <;> omega
  · have e2 : BitVec.ofInt IntKind.i64.bits (-((u % 2 : Nat) : Int)) = BitVec.allOnes 64 := by
      have : u % 2 = 1 := by omega
      rw [this]; rfl
    rw [e2]
    show IntKind.i64.wrap (((BitVec.ofInt 64 _ ^^^ BitVec.allOnes 64 : BitVec 64)).toNat : Int) = _
    rw [xor_ones, BitVec.toNat_not, BitVec.toNat_ofInt, wrap_i64]
    unfold zag
    rw [if_neg h]
    split <;> omega
theorem and1 (u : Nat) (hu : u < 18446744073709551616) : IntKind.u64.wrap ((BitVec.ofInt IntKind.u64.bits (u : Int) &&& BitVec.ofInt IntKind.u64.bits 1).toNat : Int) = ((u % 2 : Nat) : Int) := by
  have e1 : (BitVec.ofInt IntKind.u64.bits (u : Int)).toNat = u := by
    simp [IntKind.bits]; omega
  have e2 : (BitVec.ofInt IntKind.u64.bits 1).toNat = 1 := by rfl
  rw [BitVec.toNat_and, e1, e2, Nat.and_one_is_mod]
  exact wrap_u64_id (by omega)

/-! One step of a numeral. -/
theorem rnum_step {xs : List Int} {f p u v q : Nat} (h : rnum xs (f + 1) p u = some (v, q)) : ∃ c, xs[p]? = some c ∧ ((f = 9 ∨ c ≠ 0) ∧ (f ≠ 0 ∨ c ≤ 1)) ∧
    ((c < 128 ∧ v = u + (c % 128).toNat * 128 ^ (9 - f) ∧ q = p + 1) ∨ (128 ≤ c ∧ rnum xs f (p + 1) (u + (c % 128).toNat * 128 ^ (9 - f)) = some (v, q))) := by
  rw [rnum] at h
  split at h
  · cases h
  · rename_i c hc
    split at h
    · rename_i hcond
      refine ⟨c, hc, hcond, ?_⟩
      split at h
      · rename_i hlt
        simp only [Option.some.injEq, Prod.mk.injEq] at h
        exact .inl ⟨hlt, h.1.symm, h.2.symm⟩
      · exact .inr ⟨by omega, h⟩
    · cases h
theorem rnum_stop {xs : List Int} {f p u : Nat} (h : rnum xs (f + 1) p u = none) : xs[p]? = none ∨ ∃ c, xs[p]? = some c ∧ (¬ ((f = 9 ∨ c ≠ 0) ∧ (f ≠ 0 ∨ c ≤ 1)) ∨
    (((f = 9 ∨ c ≠ 0) ∧ (f ≠ 0 ∨ c ≤ 1)) ∧ 128 ≤ c ∧ rnum xs f (p + 1) (u + (c % 128).toNat * 128 ^ (9 - f)) = none)) := by
  rw [rnum] at h
  split at h
  · rename_i hc; exact .inl hc
  · rename_i c hc
    refine .inr ⟨c, hc, ?_⟩
    split at h
    · rename_i hcond
      split at h
      · cases h
      · rename_i hge
        exact .inr ⟨hcond, by omega, h⟩
    · rename_i hcond; exact .inl hcond
theorem rlength_stop {xs : List Int} {p : Nat} (h : rlength xs p = none) : rnumber xs p = none ∨ ∃ n q, rnumber xs p = some (n, q) ∧ xs.length - q < n := by
  unfold rlength at h
  cases hn : rnumber xs p with
  | none => exact .inl rfl
  | some x =>
    rw [hn] at h
    simp only at h
    split at h
    · cases h
    · rename_i hlt; exact .inr ⟨x.1, x.2, rfl, by omega⟩
theorem rlength_some {xs : List Int} {p n q : Nat} (h : rlength xs p = some (n, q)) : rnumber xs p = some (n, q) ∧ n ≤ xs.length - q := by
  unfold rlength at h
  cases hn : rnumber xs p with
  | none => rw [hn] at h; cases h
  | some x =>
    rw [hn] at h
    simp only at h
    split at h
    · rename_i hle
      obtain ⟨a, b⟩ := x
      simp only [Option.some.injEq, Prod.mk.injEq] at h
      obtain ⟨rfl, rfl⟩ := h
      exact ⟨rfl, hle⟩
    · cases h
/-- One step of a value. -/
theorem rval_step {xs : List Int} {d p : Nat} {v : Val} {q : Nat} (h : rval xs d p = some (v, q)) : ∃ c, xs[p]? = some c ∧
    ((c = 1 ∧ ∃ u, rnumber xs (p + 1) = some (u, q) ∧ v = .mk 1 (zag u) ⟨#[]⟩ []) ∨ (c = 2 ∧ ∃ n r, rlength xs (p + 1) = some (n, r) ∧ q = r + n ∧ v = .mk 2 0 (bytesOf ((xs.drop r).take n)) []) ∨
      (c = 3 ∧ ∃ d' n r l, d = d' + 1 ∧ rlength xs (p + 1) = some (n, r) ∧ rvals (rval xs d') n r = some (l, q) ∧ v = .mk 3 0 ⟨#[]⟩ l)) := by
  have key : ∀ sub, rvalWith xs sub p = some (v, q) → ∃ c, xs[p]? = some c ∧
    ((c = 1 ∧ ∃ u, rnumber xs (p + 1) = some (u, q) ∧ v = .mk 1 (zag u) ⟨#[]⟩ []) ∨ (c = 2 ∧ ∃ n r, rlength xs (p + 1) = some (n, r) ∧ q = r + n ∧ v = .mk 2 0 (bytesOf ((xs.drop r).take n)) []) ∨
      (c = 3 ∧ ∃ g n r l, sub = some g ∧ rlength xs (p + 1) = some (n, r) ∧ rvals g n r = some (l, q) ∧ v = .mk 3 0 ⟨#[]⟩ l)) := by
    intro sub h
    unfold rvalWith at h
    cases hc : xs[p]? with
    | none => rw [hc] at h; cases h
    | some c =>
      rw [hc] at h
      refine ⟨c, rfl, ?_⟩
      simp only at h
      split at h
      · rename_i h1
        cases hn : rnumber xs (p + 1) with
        | none => rw [hn] at h; cases h
        | some x =>
          rw [hn] at h
          simp only [Option.some.injEq, Prod.mk.injEq] at h
          exact .inl ⟨h1, x.1, by rw [← h.2], h.1.symm⟩
      · split at h
        · rename_i h1
          cases hn : rlength xs (p + 1) with
          | none => rw [hn] at h; cases h
          | some x =>
            rw [hn] at h
            simp only [Option.some.injEq, Prod.mk.injEq] at h
            exact .inr (.inl ⟨h1, x.1, x.2, rfl, h.2.symm, h.1.symm⟩)
        · split at h
          · rename_i h1
            cases hs : sub with
            | none => rw [hs] at h; cases h
            | some g =>
              rw [hs] at h
              simp only at h
              cases hn : rlength xs (p + 1) with
              | none => rw [hn] at h; cases h
              | some x =>
                rw [hn] at h
                simp only at h
                cases hl : rvals g x.1 x.2 with
                | none => rw [hl] at h; cases h
                | some y =>
                  rw [hl] at h
                  simp only [Option.some.injEq, Prod.mk.injEq] at h
                  exact .inr (.inr ⟨h1, g, x.1, x.2, y.1, rfl, rfl, by rw [hl, ← h.2], h.1.symm⟩)
          · cases h
  cases d with
  | zero =>
    obtain ⟨c, hc, h1 | h1 | ⟨_, g, _, _, _, hs, _⟩⟩ := key none h
    · exact ⟨c, hc, .inl h1⟩
    · exact ⟨c, hc, .inr (.inl h1)⟩
    · cases hs
  | succ d =>
    obtain ⟨c, hc, h1 | h1 | ⟨h0, g, n, r, l, hs, h1⟩⟩ := key _ h
    · exact ⟨c, hc, .inl h1⟩
    · exact ⟨c, hc, .inr (.inl h1)⟩
    · cases hs
      exact ⟨c, hc, .inr (.inr ⟨h0, d, n, r, l, rfl, h1⟩)⟩
theorem rval_stop {xs : List Int} {d p : Nat} (h : rval xs d p = none) : xs[p]? = none ∨ ∃ c, xs[p]? = some c ∧
    ((c = 1 ∧ rnumber xs (p + 1) = none) ∨ (c = 2 ∧ rlength xs (p + 1) = none) ∨ (c = 3 ∧ (d = 0 ∨ ∃ d', d = d' + 1 ∧ (rlength xs (p + 1) = none ∨ ∃ n r, rlength xs (p + 1) = some (n, r) ∧ rvals (rval xs d') n r = none))) ∨ (c ≠ 1 ∧ c ≠ 2 ∧ c ≠ 3)) := by
  have key : ∀ sub, rvalWith xs sub p = none → xs[p]? = none ∨ ∃ c, xs[p]? = some c ∧
    ((c = 1 ∧ rnumber xs (p + 1) = none) ∨ (c = 2 ∧ rlength xs (p + 1) = none) ∨ (c = 3 ∧ (sub = none ∨ ∃ g, sub = some g ∧ (rlength xs (p + 1) = none ∨ ∃ n r, rlength xs (p + 1) = some (n, r) ∧ rvals g n r = none))) ∨ (c ≠ 1 ∧ c ≠ 2 ∧ c ≠ 3)) := by
    intro sub h
    unfold rvalWith at h
    cases hc : xs[p]? with
    | none => exact .inl rfl
    | some c =>
      rw [hc] at h
      refine .inr ⟨c, rfl, ?_⟩
      simp only at h
      split at h
      · rename_i h1
        cases hn : rnumber xs (p + 1) with
        | none => exact .inl ⟨h1, rfl⟩
        | some x => rw [hn] at h; cases h
      · rename_i n1
        split at h
        · rename_i h1
          cases hn : rlength xs (p + 1) with
          | none => exact .inr (.inl ⟨h1, rfl⟩)
          | some x => rw [hn] at h; cases h
        · rename_i n2
          split at h
          · rename_i h1
            refine .inr (.inr (.inl ⟨h1, ?_⟩))
            cases hs : sub with
            | none => exact .inl rfl
            | some g =>
              rw [hs] at h
              simp only at h
              refine .inr ⟨g, rfl, ?_⟩
              cases hn : rlength xs (p + 1) with
              | none => exact .inl rfl
              | some x =>
                rw [hn] at h
                simp only at h
                cases hl : rvals g x.1 x.2 with
                | none => exact .inr ⟨x.1, x.2, rfl, hl⟩
                | some y => rw [hl] at h; cases h
          · rename_i n3
            exact .inr (.inr (.inr ⟨n1, n2, n3⟩))
  cases d with
  | zero =>
    rcases key none h with h1 | ⟨c, hc, h1 | h1 | ⟨h0, _⟩ | h1⟩
    · exact .inl h1
    · exact .inr ⟨c, hc, .inl h1⟩
    · exact .inr ⟨c, hc, .inr (.inl h1)⟩
    · exact .inr ⟨c, hc, .inr (.inr (.inl ⟨h0, .inl rfl⟩))⟩
    · exact .inr ⟨c, hc, .inr (.inr (.inr h1))⟩
  | succ d =>
    rcases key _ h with h1 | ⟨c, hc, h1 | h1 | ⟨h0, hs | ⟨g, hs, h1⟩⟩ | h1⟩
    · exact .inl h1
    · exact .inr ⟨c, hc, .inl h1⟩
    · exact .inr ⟨c, hc, .inr (.inl h1)⟩
    · cases hs
    · cases hs; exact .inr ⟨c, hc, .inr (.inr (.inl ⟨h0, .inr ⟨d, rfl, h1⟩⟩))⟩
    · exact .inr ⟨c, hc, .inr (.inr (.inr h1))⟩
theorem rvals_step {g : Nat → Option (Val × Nat)} {n p : Nat} {l : List Val} {q : Nat} (h : rvals g (n + 1) p = some (l, q)) : ∃ v r t, g p = some (v, r) ∧ rvals g n r = some (t, q) ∧ l = v :: t := by
  simp only [rvals] at h
  cases hv : g p with
  | none => rw [hv] at h; cases h
  | some x =>
    rw [hv] at h
    simp only at h
    cases hl : rvals g n x.2 with
    | none => rw [hl] at h; cases h
    | some y =>
      rw [hl] at h
      simp only [Option.some.injEq, Prod.mk.injEq] at h
      exact ⟨x.1, x.2, y.1, rfl, by rw [hl, ← h.2], h.1.symm⟩
theorem rvals_stop {g : Nat → Option (Val × Nat)} {n p : Nat} (h : rvals g (n + 1) p = none) : g p = none ∨ ∃ v r, g p = some (v, r) ∧ rvals g n r = none := by
  simp only [rvals] at h
  cases hv : g p with
  | none => exact .inl rfl
  | some x =>
    rw [hv] at h
    simp only at h
    cases hl : rvals g n x.2 with
    | none => exact .inr ⟨x.1, x.2, rfl, hl⟩
    | some y => rw [hl] at h; cases h

/-! The cells of a list of values, column by column. -/
def Val.num : Val → Int
  | .mk _ n _ _ => n
def Val.str : Val → ByteArray
  | .mk _ _ s _ => s
def Val.sub : Val → List Val
  | .mk _ _ _ l => l
def valCols (l : List Val) : List Col := [.ints .i64 (l.map Val.kind), .ints .i64 (l.map Val.num), .ds (l.map fun v => .v (.string v.str)), .ds (l.map fun v => .rows 4 v.sub.length (Val.row v.sub))]
theorem valCols_snoc (l : List Val) (k n : Int) (s : ByteArray) (m : List Val) : joined (valCols l) [.ints .i64 [k], .ints .i64 [n], .ds [.v (.string s)], .ds [.rows 4 m.length (Val.row m)]] = valCols (l ++ [.mk k n s m]) := by
  simp [joined, catCols, Col.cat, valCols, Val.kind, Val.num, Val.str, Val.sub]
theorem valCols_row (l : List Val) (i : Nat) (h : i < l.length) : (valCols l).map (Col.at · i) = Val.row l i := by
  rw [Val.row_get l i l[i] (List.getElem?_eq_getElem h)]
  rcases hv : l[i] with ⟨k, n, s, m⟩
  simp [valCols, Col.at, List.getD, List.getElem?_eq_getElem h, hv, Val.cells, Val.kind, Val.num, Val.str, Val.sub]
theorem valCols_len (l : List Val) : ∀ c ∈ valCols l, c.len = l.length := by
  intro c hc
  simp [valCols] at hc
  rcases hc with rfl | rfl | rfl | rfl <;> simp [Col.len]

/-- The bound of what was read so far. -/
theorem digits_bd {i d u : Nat} (hd : d < 128) (hu : u < 128 ^ i) : u + d * 128 ^ i < 128 ^ (i + 1) := by
  rw [Nat.pow_succ]
  have : d * 128 ^ i ≤ 127 * 128 ^ i := Nat.mul_le_mul_right _ (by omega)
  omega

end Go.Proofs.Ytlccnbnnlfbfjaa
