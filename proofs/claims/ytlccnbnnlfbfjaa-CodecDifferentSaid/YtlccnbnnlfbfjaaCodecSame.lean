/- Equality of values. Plain Lean, no program in sight. -/
import Derived.Test.YtlccnbnnlfbfjaaCodecRef
namespace Go.Proofs.Ytlccnbnnlfbfjaa
open Go

mutual
def Val.same : Val → Val → Bool
  | .mk k n s l, .mk k' n' s' l' => decide (k = k') && decide (n = n') && decide (s = s') && Val.sames l l'
def Val.sames : List Val → List Val → Bool
  | [], [] => true
  | x :: r, y :: r' => Val.same x y && Val.sames r r'
  | _, _ => false
end
theorem Val.sames_length : ∀ {l m : List Val}, Val.sames l m = true → l.length = m.length
  | [], [], _ => rfl
  | [], _ :: _, h => by simp [Val.sames] at h
  | _ :: _, [], h => by simp [Val.sames] at h
  | x :: r, y :: r', h => by
    simp only [Val.sames, Bool.and_eq_true] at h
    simp [Val.sames_length h.2]
theorem Val.sames_false {l m : List Val} (h : l.length ≠ m.length) : Val.sames l m = false := by
  cases e : Val.sames l m with
  | false => rfl
  | true => exact absurd (Val.sames_length e) h
theorem Val.sames_get : ∀ {l m : List Val} (_ : Val.sames l m = true) (i : Nat) (h1 : i < l.length) (h2 : i < m.length), Val.same l[i] m[i] = true
  | [], _, _, i, h1, _ => by simp at h1
  | _ :: _, [], h, _, _, _ => by simp [Val.sames] at h
  | x :: r, y :: r', h, i, h1, h2 => by
    simp only [Val.sames, Bool.and_eq_true] at h
    cases i with
    | zero => exact h.1
    | succ i => simpa using Val.sames_get h.2 i (by simpa using h1) (by simpa using h2)
theorem Val.sames_take : ∀ {l m : List Val} (i : Nat) (h1 : i < l.length) (h2 : i < m.length), Val.sames (l.take (i + 1)) (m.take (i + 1)) = (Val.sames (l.take i) (m.take i) && Val.same l[i] m[i])
  | [], _, i, h1, _ => by simp at h1
  | _ :: _, [], _, _, h2 => by simp at h2
  | x :: r, y :: r', i, h1, h2 => by
    cases i with
    | zero => simp [Val.sames]
    | succ i =>
      have := Val.sames_take (l := r) (m := r') i (by simpa using h1) (by simpa using h2)
      simp only [List.take_succ_cons, Val.sames, this, List.getElem_cons_succ]
      rw [Bool.and_assoc]
theorem Val.same_false {l m : List Val} (i : Nat) (h1 : i < l.length) (h2 : i < m.length) (h : Val.same l[i] m[i] = false) : Val.sames l m = false := by
  cases e : Val.sames l m with
  | false => rfl
  | true => rw [Val.sames_get e i h1 h2] at h; cases h

end Go.Proofs.Ytlccnbnnlfbfjaa
