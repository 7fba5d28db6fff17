/- Values of the codec, and what its functions compute of them. Plain Lean, no program in sight. -/
import Derived.Test.YtlccnbnnlfbfjaaGhost
namespace Go.Proofs.Ytlccnbnnlfbfjaa
open Go

inductive Val where
  | mk (k n : Int) (s : ByteArray) (l : List Val)

mutual
def Val.cells : Val → List D
  | .mk k n s l => [.v (.int .i64 k), .v (.int .i64 n), .v (.string s), .rows 4 l.length (Val.row l)]
def Val.row : List Val → Nat → List D
  | [], _ => []
  | x :: _, 0 => x.cells
  | _ :: r, i + 1 => Val.row r i
end
theorem Val.row_get : ∀ (l : List Val) (i : Nat) (x : Val), l[i]? = some x → Val.row l i = x.cells
  | [], _, _, h => by simp at h
  | y :: r, 0, x, h => by simp at h; subst h; rfl
  | y :: r, i + 1, x, h => by simp at h; exact Val.row_get r i x h
theorem Val.cells_length (v : Val) : v.cells.length = 4 := by cases v; rfl
theorem Val.row_take (l : List Val) (i : Nat) (h : i < l.length) : (Val.row l i).take 4 = (l[i]).cells := by
  rw [Val.row_get l i l[i] (List.getElem?_eq_getElem h), List.take_of_length_le (by rw [Val.cells_length]; exact Nat.le_refl _)]
theorem Val.row_length (l : List Val) (i : Nat) (h : i < l.length) : (Val.row l i).length = 4 := by
  rw [Val.row_get l i l[i] (List.getElem?_eq_getElem h), Val.cells_length]
theorem Val.cells_one (v : Val) : ∀ x ∈ v.cells, (AV.d x).oneB = true := by
  cases v with
  | mk k n s l => intro x hx; simp [Val.cells] at hx; rcases hx with rfl | rfl | rfl | rfl <;> rfl
def Val.kind : Val → Int
  | .mk k _ _ _ => k
abbrev Val.av (v : Val) : AV := .d (.agg v.cells)

/-- Lengths are those of things in memory. -/
inductive Val.Sz : Val → Prop
  | mk (k n : Int) (s : ByteArray) (l : List Val) (hk : -9223372036854775808 ≤ k ∧ k ≤ 9223372036854775807) (hn : -9223372036854775808 ≤ n ∧ n ≤ 9223372036854775807) (hs : s.size ≤ 140737488355328) (hl : l.length ≤ 140737488355328) (h : ∀ x ∈ l, Val.Sz x) : Val.Sz (.mk k n s l)

mutual
def Val.formed : Val → Bool
  | .mk k n s l => if k = 1 then decide (s = ⟨#[]⟩) && decide (l.length = 0) else if k = 2 then decide (n = 0) && decide (l.length = 0) else if k = 3 then decide (n = 0) && decide (s = ⟨#[]⟩) && Val.formeds l else false
def Val.formeds : List Val → Bool
  | [] => true
  | x :: r => x.formed && Val.formeds r
end
mutual
def Val.depth : Val → Nat
  | .mk k _ _ l => if k = 3 then 1 + Val.depths l else 0
def Val.depths : List Val → Nat
  | [] => 0
  | x :: r => max x.depth (Val.depths r)
end
theorem Val.depths_append (l m : List Val) : Val.depths (l ++ m) = max (Val.depths l) (Val.depths m) := by
  induction l with
  | nil => simp [Val.depths]
  | cons x r ih => simp only [List.cons_append, Val.depths, ih]; omega
theorem Val.formeds_append (l m : List Val) : Val.formeds (l ++ m) = (Val.formeds l && Val.formeds m) := by
  induction l with
  | nil => simp [Val.formeds]
  | cons x r ih => simp [Val.formeds, ih, Bool.and_assoc]
theorem take_succ' {α : Type} (l : List α) (k : Nat) (h : k < l.length) : l.take (k + 1) = l.take k ++ [l[k]] := by
  rw [List.take_succ_eq_append_getElem h]
theorem Val.formeds_mem {l : List Val} (h : Val.formeds l = true) : ∀ x ∈ l, x.formed = true := by
  induction l with
  | nil => intro x hx; cases hx
  | cons y r ih =>
    simp only [Val.formeds, Bool.and_eq_true] at h
    intro x hx
    rcases List.mem_cons.1 hx with rfl | hx
    · exact h.1
    · exact ih h.2 x hx
theorem Val.depth_mem {l : List Val} : ∀ x ∈ l, x.depth ≤ Val.depths l := by
  induction l with
  | nil => intro x hx; cases hx
  | cons y r ih =>
    intro x hx
    simp only [Val.depths]
    rcases List.mem_cons.1 hx with rfl | hx
    · omega
    · have := ih x hx; omega

theorem Val.ones_map (v : Val) : ∀ x ∈ v.cells.map AV.d, x.oneB = true := by
  intro x hx
  obtain ⟨y, hy, rfl⟩ := List.mem_map.1 hx
  exact Val.cells_one v y hy
theorem used_eq (k : Int) (A B C : Bool) : (bif (bif decide (k < 1) then true else decide (3 < k)) then true else !([false, A, B, C].getD k.toNat false)) = !((decide (k = 1) && A) || (decide (k = 2) && B) || (decide (k = 3) && C)) := by
  by_cases h1 : k < 1
  · have : ¬ k = 1 ∧ ¬ k = 2 ∧ ¬ k = 3 := by omega
    simp [h1, this]
  · by_cases h2 : 3 < k
    · have : ¬ k = 1 ∧ ¬ k = 2 ∧ ¬ k = 3 := by omega
      simp [h1, h2, this]
    · have : k = 1 ∨ k = 2 ∨ k = 3 := by omega
      rcases this with rfl | rfl | rfl <;> simp
theorem Val.formed_eq (k n : Int) (s : ByteArray) (l : List Val) : (Val.mk k n s l).formed = ((decide (k = 1) && (decide (s = ⟨#[]⟩) && decide (l.length = 0))) || (decide (k = 2) && (decide (n = 0) && decide (l.length = 0))) || (decide (k = 3) && (decide (n = 0) && decide (s = ⟨#[]⟩) && Val.formeds l))) := by
  simp only [Val.formed]
  by_cases h1 : k = 1
  · subst h1; simp
  · by_cases h2 : k = 2
    · subst h2; simp
    · by_cases h3 : k = 3
      · subst h3; simp
      · simp [h1, h2, h3]
theorem Val.depths_take (l : List Val) (i : Nat) : Val.depths (l.take i) ≤ Val.depths l := by
  have : Val.depths l = max (Val.depths (l.take i)) (Val.depths (l.drop i)) := by rw [← Val.depths_append, List.take_append_drop]
  omega

/-- The error of Check. -/
def Val.check (v : Val) : Int := if v.formed then (if 16 < v.depth then 2 else 0) else 1

end Go.Proofs.Ytlccnbnnlfbfjaa
