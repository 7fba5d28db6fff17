/- Numerals of the codec: digits to the base 128; zigzag. Plain Lean, no program in sight. -/
import Derived.Test.YtlccnbnnlfbfjaaCodecMath
namespace Go.Proofs.Ytlccnbnnlfbfjaa
open Go

def dig (u : Nat) : List Int := if h : u < 128 then [(u : Int)] else ((u % 128 + 128 : Nat) : Int) :: dig (u / 128)
termination_by u
decreasing_by omega
theorem dig_lt {u : Nat} (h : u < 128) : dig u = [(u : Int)] := by rw [dig, dif_pos h]
theorem dig_ge {u : Nat} (h : 128 ≤ u) : dig u = ((u % 128 + 128 : Nat) : Int) :: dig (u / 128) := by rw [dig, dif_neg (by omega)]
theorem dig_length (u : Nat) : ∀ k, u < 2 ^ (7 * (k + 1)) → (dig u).length ≤ k + 1 := by
  intro k
  induction k generalizing u with
  | zero => intro h; rw [dig_lt (by simpa using h)]; simp
  | succ k ih =>
    intro h
    by_cases hu : u < 128
    · rw [dig_lt hu]; simp
    · rw [dig_ge (by omega)]
      have : u / 128 < 2 ^ (7 * (k + 1)) := by
        rw [Nat.div_lt_iff_lt_mul (by decide)]
        have e : 2 ^ (7 * (k + 1 + 1)) = 2 ^ (7 * (k + 1)) * 128 := by rw [show 7 * (k + 1 + 1) = 7 * (k + 1) + 7 from by omega, Nat.pow_add]
        omega
      have := ih (u / 128) this
      simp only [List.length_cons]; omega
theorem dig_length10 {u : Nat} (h : u < 18446744073709551616) : (dig u).length ≤ 10 := dig_length u 9 (Nat.lt_of_lt_of_le h (by decide))
theorem dig_pos (u : Nat) : 0 < (dig u).length := by
  by_cases hu : u < 128
  · rw [dig_lt hu]; simp
  · rw [dig_ge (by omega)]; simp

def zig (n : Int) : Nat := if 0 ≤ n then (2 * n).toNat else (-2 * n - 1).toNat
def zag (u : Nat) : Int := if u % 2 = 0 then ((u / 2 : Nat) : Int) else -((u / 2 : Nat) : Int) - 1
theorem zag_zig (n : Int) : zag (zig n) = n := by
  unfold zig zag
  split <;> split <;> omega
theorem zig_zag (u : Nat) : zig (zag u) = u := by
  unfold zig zag
  split <;> split <;> omega
theorem zig_lt {n : Int} (h : -9223372036854775808 ≤ n ∧ n ≤ 9223372036854775807) : zig n < 18446744073709551616 := by
  unfold zig; split <;> omega

theorem wrap_u8 (n : Int) : IntKind.u8.wrap n = n % 256 := by simp [IntKind.wrap, IntKind.bits, IntKind.signed]
theorem wrap_u64 (n : Int) : IntKind.u64.wrap n = n % 18446744073709551616 := by simp [IntKind.wrap, IntKind.bits, IntKind.signed]
theorem wrap_u64_id {n : Int} (h : 0 ≤ n ∧ n < 18446744073709551616) : IntKind.u64.wrap n = n := by rw [wrap_u64]; omega
theorem wrap_i64 (n : Int) : IntKind.i64.wrap n = if 9223372036854775808 ≤ n % 18446744073709551616 then n % 18446744073709551616 - 18446744073709551616 else n % 18446744073709551616 := by
  simp [IntKind.wrap, IntKind.bits, IntKind.signed]
theorem wrap_i64_id {n : Int} (h : -9223372036854775808 ≤ n ∧ n ≤ 9223372036854775807) : IntKind.i64.wrap n = n := by
  rw [wrap_i64]; split <;> omega

theorem or128 (u : Nat) : IntKind.u8.wrap ((BitVec.ofInt IntKind.u8.bits (IntKind.u8.wrap u) ||| BitVec.ofInt IntKind.u8.bits 128).toNat : Int) = ((u % 128 + 128 : Nat) : Int) := by
  have key : ∀ c : Fin 256, (BitVec.ofNat 8 c.val ||| 128#8).toNat = c.val % 128 + 128 := by decide +kernel
  have h := key ⟨u % 256, by omega⟩
  rw [wrap_u8, wrap_u8]
  have e : BitVec.ofInt IntKind.u8.bits ((u : Int) % 256) = BitVec.ofNat 8 (u % 256) := by
    apply BitVec.eq_of_toNat_eq
    simp [BitVec.toNat_ofInt, IntKind.bits]
    omega
  have e2 : BitVec.ofInt IntKind.u8.bits 128 = 128#8 := by rfl
  rw [e, e2]
  simp only at h
  show (((BitVec.ofNat 8 (u % 256) ||| 128#8).toNat : Nat) : Int) % 256 = _
  rw [h]
  omega
theorem byte_of (u : Nat) (h : u < 128) : IntKind.u8.wrap (u : Int) = (u : Int) := by rw [wrap_u8]; omega
theorem shr7 (u : Nat) : ((u : Int)).fdiv (2 ^ (min (7 : Int).toNat IntKind.u64.bits)) = ((u / 128 : Nat) : Int) := by
  show ((u : Int)).fdiv 128 = _
  rw [Int.fdiv_eq_ediv_of_nonneg _ (by decide)]; omega

theorem xor_ones (x : BitVec 64) : x ^^^ BitVec.allOnes 64 = ~~~ x := BitVec.xor_allOnes
/-- The unsigned form, by shifts. -/
theorem zig_shift {n : Int} (h : -9223372036854775808 ≤ n ∧ n ≤ 9223372036854775807) :
    IntKind.u64.wrap ((BitVec.ofInt IntKind.u64.bits (IntKind.u64.wrap (IntKind.u64.wrap n * 2 ^ (min (1 : Int).toNat IntKind.u64.bits))) ^^^ BitVec.ofInt IntKind.u64.bits (IntKind.u64.wrap (n.fdiv (2 ^ (min (63 : Int).toNat IntKind.i64.bits))))).toNat : Int) = (zig n : Int) := by
  have hf : n.fdiv (2 ^ (min (63 : Int).toNat IntKind.i64.bits)) = if 0 ≤ n then 0 else -1 := by
    show n.fdiv 9223372036854775808 = _
    rw [Int.fdiv_eq_ediv_of_nonneg _ (by decide)]
    split <;> omega
  rw [hf]
  have e1 : IntKind.u64.wrap n * 2 ^ (min (1 : Int).toNat IntKind.u64.bits) = IntKind.u64.wrap n * 2 := rfl
  rw [e1]
  by_cases hn : 0 ≤ n
  · rw [if_pos hn]
    have e2 : BitVec.ofInt IntKind.u64.bits (IntKind.u64.wrap 0) = 0#64 := by rw [wrap_u64]; rfl
    rw [e2]
    have e3 : ∀ x : BitVec 64, x ^^^ 0#64 = x := fun x => BitVec.xor_zero
    show IntKind.u64.wrap (((BitVec.ofInt 64 _ ^^^ 0#64 : BitVec 64)).toNat : Int) = _
    rw [e3, BitVec.toNat_ofInt]
    simp only [wrap_u64, zig, if_pos hn]
    omega
  · rw [if_neg hn]
    have e2 : BitVec.ofInt IntKind.u64.bits (IntKind.u64.wrap (-1)) = BitVec.allOnes 64 := by rw [wrap_u64]; rfl
    rw [e2]
    show IntKind.u64.wrap (((BitVec.ofInt 64 _ ^^^ BitVec.allOnes 64 : BitVec 64)).toNat : Int) = _
    rw [xor_ones, BitVec.toNat_not, BitVec.toNat_ofInt]
    simp only [wrap_u64, zig, if_neg hn]
    omega

theorem rem128 (u : Nat) : IntKind.u8.wrap (IntKind.u64.wrap (((u : Int)).tmod 128 + 128)) = ((u % 128 + 128 : Nat) : Int) := by
  rw [Int.tmod_eq_emod_of_nonneg (by omega), wrap_u8, wrap_u64]; omega
theorem quo128 (u : Nat) (h : u < 18446744073709551616) : IntKind.u64.wrap (((u : Int)).tdiv 128) = ((u / 128 : Nat) : Int) := by
  rw [Int.tdiv_eq_ediv_of_nonneg (by omega), wrap_u64]; omega

end Go.Proofs.Ytlccnbnnlfbfjaa
