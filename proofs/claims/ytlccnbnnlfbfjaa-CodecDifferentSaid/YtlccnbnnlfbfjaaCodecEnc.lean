/- The encoding of a value, as a list of bytes. Plain Lean, no program in sight. -/
import Derived.Test.YtlccnbnnlfbfjaaCodecNum
namespace Go.Proofs.Ytlccnbnnlfbfjaa
open Go

def bytesI (s : ByteArray) : List Int := s.data.toList.map fun b => (b.toNat : Int)
theorem bytesI_length (s : ByteArray) : (bytesI s).length = s.size := by simp [bytesI]
mutual
def Val.enc : Val → List Int
  | .mk k n s l => if k = 1 then 1 :: dig (zig n) else if k = 2 then 2 :: (dig s.size ++ bytesI s) else 3 :: (dig l.length ++ Val.encs l)
def Val.encs : List Val → List Int
  | [] => []
  | x :: r => x.enc ++ Val.encs r
end
theorem Val.encs_append (l m : List Val) : Val.encs (l ++ m) = Val.encs l ++ Val.encs m := by
  induction l with
  | nil => simp [Val.encs]
  | cons x r ih => simp [Val.encs, ih]
theorem Val.encs_take (l : List Val) (i : Nat) (h : i < l.length) : Val.encs (l.take (i + 1)) = Val.encs (l.take i) ++ (l[i]).enc := by
  rw [take_succ' l i h, Val.encs_append]; simp [Val.encs]
theorem Val.encs_split (l : List Val) (i : Nat) : Val.encs l = Val.encs (l.take i) ++ Val.encs (l.drop i) := by
  rw [← Val.encs_append, List.take_append_drop]
theorem Val.enc_int (n : Int) (s : ByteArray) (l : List Val) : (Val.mk 1 n s l).enc = 1 :: dig (zig n) := by simp [Val.enc]
theorem Val.enc_text (n : Int) (s : ByteArray) (l : List Val) : (Val.mk 2 n s l).enc = 2 :: (dig s.size ++ bytesI s) := by simp [Val.enc]
theorem Val.enc_list (n : Int) (s : ByteArray) (l : List Val) : (Val.mk 3 n s l).enc = 3 :: (dig l.length ++ Val.encs l) := by simp [Val.enc]
theorem Val.kind_of {k n : Int} {s : ByteArray} {l : List Val} (h : (Val.mk k n s l).formed = true) : k = 1 ∨ k = 2 ∨ k = 3 := by
  rw [Val.formed_eq] at h
  by_cases h1 : k = 1
  · exact .inl h1
  · by_cases h2 : k = 2
    · exact .inr (.inl h2)
    · by_cases h3 : k = 3
      · exact .inr (.inr h3)
      · simp [h1, h2, h3] at h
theorem Val.formed_list {n : Int} {s : ByteArray} {l : List Val} (h : (Val.mk 3 n s l).formed = true) : n = 0 ∧ s = ⟨#[]⟩ ∧ Val.formeds l = true := by
  rw [Val.formed_eq] at h
  simpa [and_assoc] using h

end Go.Proofs.Ytlccnbnnlfbfjaa
