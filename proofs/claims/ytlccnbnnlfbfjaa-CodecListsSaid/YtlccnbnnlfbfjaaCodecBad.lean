/- The specification's reader: it goes on behind a fault. Plain Lean, no program in sight. -/
import Derived.Test.YtlccnbnnlfbfjaaCodecBits
namespace Go.Proofs.Ytlccnbnnlfbfjaa
open Go

/-- The next byte (0 at the end), the place behind it, whether the end was passed. -/
def nc (xs : List Int) (p : Nat) : Int := xs.getD p 0
def np (xs : List Int) (p : Nat) : Nat := if p < xs.length then p + 1 else p
def nb (xs : List Int) (p : Nat) : Bool := decide (xs.length ≤ p)
theorem nc_some {xs : List Int} {p : Nat} {c : Int} (h : xs[p]? = some c) : nc xs p = c ∧ np xs p = p + 1 ∧ nb xs p = false := by
  have := (List.getElem?_eq_some_iff.1 h).1
  exact ⟨by simp [nc, List.getD, h], by simp [np, this], by simp [nb]; omega⟩
theorem nc_none {xs : List Int} {p : Nat} (h : xs[p]? = none) : nc xs p = 0 ∧ np xs p = p ∧ nb xs p = true := by
  have := List.getElem?_eq_none_iff.1 h
  exact ⟨by simp [nc, List.getD, h], by simp [np]; omega, by simp [nb]; omega⟩
theorem nc_bd {xs : List Int} (hb : Bytes xs) (p : Nat) : 0 ≤ nc xs p ∧ nc xs p < 256 := by
  cases h : xs[p]? with
  | none => rw [(nc_none h).1]; decide
  | some c => rw [(nc_some h).1]; exact hb c (List.mem_of_getElem? h)
theorem np_le {xs : List Int} {p : Nat} (h : p ≤ xs.length) : np xs p ≤ xs.length := by unfold np; split <;> omega
theorem nc_ne {xs : List Int} {p : Nat} (h : nc xs p ≠ 0) : xs[p]? = some (nc xs p) := by
  cases e : xs[p]? with
  | none => exact absurd (nc_none e).1 h
  | some c => rw [(nc_some e).1]

def bnumF (xs : List Int) : Nat → Nat → Nat → Nat × Nat × Bool
  | 0, p, _ => (0, p, true)
  | f + 1, p, u => if (f = 9 ∨ nc xs p ≠ 0) ∧ (f ≠ 0 ∨ nc xs p ≤ 1) then
      (if nc xs p < 128 then (u + (nc xs p % 128).toNat * 128 ^ (9 - f), np xs p, nb xs p) else bnumF xs f (np xs p) (u + (nc xs p % 128).toNat * 128 ^ (9 - f)))
    else (0, np xs p, true)
def optOf {α : Type} : α × Nat × Bool → Option (α × Nat)
  | (v, q, b) => bif b then none else some (v, q)
theorem bnumF_opt {xs : List Int} : ∀ (f p u : Nat), rnum xs f p u = optOf (bnumF xs f p u) := by
  intro f
  induction f with
  | zero => intro p u; rfl
  | succ f ih =>
    intro p u
    simp only [rnum, bnumF]
    cases h : xs[p]? with
    | none =>
      obtain ⟨h1, h2, h3⟩ := nc_none h
      simp only [h1, h2, h3]
      split <;> (try split) <;> first | rfl | omega
    | some c =>
      obtain ⟨h1, h2, h3⟩ := nc_some h
      simp only [h1, h2, h3]
      split
      · split
        · rfl
        · exact ih _ _
      · rfl
theorem bnumF_le {xs : List Int} : ∀ (f p u : Nat), p ≤ xs.length → (bnumF xs f p u).2.1 ≤ xs.length := by
  intro f
  induction f with
  | zero => intro p u h; exact h
  | succ f ih =>
    intro p u h
    simp only [bnumF]
    split
    · split
      · exact np_le h
      · exact ih _ _ (np_le h)
    · exact np_le h
def bnum (xs : List Int) (p : Nat) : Nat × Nat × Bool := bnumF xs 10 p 0
theorem bnum_opt (xs : List Int) (p : Nat) : rnumber xs p = optOf (bnum xs p) := bnumF_opt 10 p 0
theorem bnum_ok {xs : List Int} {p v q : Nat} (h : bnum xs p = (v, q, false)) : rnumber xs p = some (v, q) := by rw [bnum_opt, h]; rfl
theorem nb_nc {xs : List Int} {p : Nat} (h : nb xs p = true) : nc xs p = 0 := by
  simp only [nb, decide_eq_true_eq] at h
  exact (nc_none (List.getElem?_eq_none h)).1
theorem bnumF_bad {xs : List Int} : ∀ (f p u : Nat), f ≤ 9 → (f = 9 → u = 0) → (bnumF xs (f + 1) p u).2.2 = true → (bnumF xs (f + 1) p u).1 = 0 := by
  intro f
  induction f with
  | zero =>
    intro p u _ _ h
    rw [bnumF] at h ⊢
    split at h
    · rename_i hc
      rw [if_pos hc]
      split at h
      · rename_i hl
        have := nb_nc h
        omega
      · omega
    · rename_i hc
      rw [if_neg hc]
  | succ f ih =>
    intro p u hf hu h
    rw [bnumF] at h ⊢
    split at h
    · rename_i hc
      rw [if_pos hc]
      split at h
      · rename_i hl
        rw [if_pos hl]
        have h0 := nb_nc h
        have : u = 0 := hu (by omega)
        simp [this, h0]
      · rename_i hl
        rw [if_neg hl]
        exact ih _ _ (by omega) (by omega) h
    · rename_i hc
      rw [if_neg hc]
theorem bnum_lt {xs : List Int} (hb : Bytes xs) (p : Nat) : (bnum xs p).1 < 18446744073709551616 := by
  cases h : (bnum xs p).2.2 with
  | true => rw [show (bnum xs p).1 = 0 from bnumF_bad 9 p 0 (by decide) (fun _ => rfl) h]; decide
  | false =>
    have : bnum xs p = ((bnum xs p).1, (bnum xs p).2.1, false) := by rw [← h]
    exact (rnumber_sound hb (bnum_ok this)).2.2.2

def bvals (g : Nat → Val × Nat × Bool) : Nat → Nat → List Val × Nat × Bool
  | 0, p => ([], p, false)
  | n + 1, p => bif (g p).2.2 then ([(g p).1], (g p).2.1, true) else ((g p).1 :: (bvals g n (g p).2.1).1, (bvals g n (g p).2.1).2.1, (bvals g n (g p).2.1).2.2)
def Val.none : Val := .mk 0 0 ⟨#[]⟩ []
def bvalWith (xs : List Int) (sub : Option (Nat → Val × Nat × Bool)) (p : Nat) : Val × Nat × Bool :=
  if nc xs p = 1 then (.mk 1 (zag (bnum xs (p + 1)).1) ⟨#[]⟩ [], (bnum xs (p + 1)).2.1, (bnum xs (p + 1)).2.2)
  else if nc xs p = 2 then
    (if (bnum xs (p + 1)).2.2 = true ∨ xs.length - (bnum xs (p + 1)).2.1 < (bnum xs (p + 1)).1 then (Val.none, (bnum xs (p + 1)).2.1, true)
     else (.mk 2 0 (bytesOf ((xs.drop (bnum xs (p + 1)).2.1).take (bnum xs (p + 1)).1)) [], (bnum xs (p + 1)).2.1 + (bnum xs (p + 1)).1, false))
  else if nc xs p = 3 then
    (if (bnum xs (p + 1)).2.2 = true ∨ xs.length - (bnum xs (p + 1)).2.1 < (bnum xs (p + 1)).1 then (Val.none, (bnum xs (p + 1)).2.1, true)
     else match sub with
      | none => (Val.none, (bnum xs (p + 1)).2.1, true)
      | some g => (.mk 3 0 ⟨#[]⟩ (bvals g (bnum xs (p + 1)).1 (bnum xs (p + 1)).2.1).1, (bvals g (bnum xs (p + 1)).1 (bnum xs (p + 1)).2.1).2.1, (bvals g (bnum xs (p + 1)).1 (bnum xs (p + 1)).2.1).2.2))
  else (Val.none, np xs p, true)
def bval (xs : List Int) : Nat → Nat → Val × Nat × Bool
  | 0 => bvalWith xs none
  | d + 1 => bvalWith xs (some (bval xs d))

theorem bvals_opt {g : Nat → Val × Nat × Bool} {h : Nat → Option (Val × Nat)} (hg : ∀ p, h p = optOf (g p)) : ∀ (n p : Nat), rvals h n p = optOf (bvals g n p) := by
  intro n
  induction n with
  | zero => intro p; rfl
  | succ n ih =>
    intro p
    simp only [rvals, bvals, hg p]
    obtain ⟨v, q, b⟩ := g p
    cases b with
    | true => rfl
    | false =>
      simp only [optOf, cond_false, ih q]
      obtain ⟨l, r, b⟩ := bvals g n q
      cases b <;> rfl
theorem bvalWith_opt {xs : List Int} {sub : Option (Nat → Val × Nat × Bool)} {sub' : Option (Nat → Option (Val × Nat))} (hs : (sub = none ∧ sub' = none) ∨ ∃ g h, sub = some g ∧ sub' = some h ∧ ∀ p, h p = optOf (g p)) (p : Nat) : rvalWith xs sub' p = optOf (bvalWith xs sub p) := by
  unfold rvalWith bvalWith rlength
  rw [bnum_opt xs (p + 1)]
  cases h : xs[p]? with
  | none =>
    rw [(nc_none h).1]
    simp only
    rw [if_neg (by decide), if_neg (by decide), if_neg (by decide)]
    rfl
  | some c =>
    rw [(nc_some h).1]
    simp only
    obtain ⟨u, q, b⟩ := bnum xs (p + 1)
    simp only
    by_cases h1 : c = 1
    · rw [if_pos h1, if_pos h1]
      cases b <;> rfl
    · rw [if_neg h1, if_neg h1]
      by_cases h2 : c = 2
      · rw [if_pos h2, if_pos h2]
        cases b with
        | true => rw [if_pos (.inl rfl)]; rfl
        | false =>
          simp only [optOf, cond_false, Bool.false_eq_true, false_or]
          by_cases h3 : u ≤ xs.length - q
          · rw [if_pos h3, if_neg (by omega)]; rfl
          · rw [if_neg h3, if_pos (by omega)]; rfl
      · rw [if_neg h2, if_neg h2]
        by_cases h3 : c = 3
        · rw [if_pos h3, if_pos h3]
          cases b with
          | true =>
            rw [if_pos (.inl rfl)]
            rcases hs with ⟨rfl, rfl⟩ | ⟨g, h, rfl, rfl, hgh⟩ <;> rfl
          | false =>
            simp only [optOf, cond_false, Bool.false_eq_true, false_or]
            by_cases h4 : u ≤ xs.length - q
            · rw [if_pos h4, if_neg (by omega)]
              rcases hs with ⟨rfl, rfl⟩ | ⟨g, h, rfl, rfl, hgh⟩
              · rfl
              · simp only [bvals_opt hgh]
                obtain ⟨l, r, b⟩ := bvals g u q
                cases b <;> rfl
            · rw [if_neg h4, if_pos (by omega)]
              rcases hs with ⟨rfl, rfl⟩ | ⟨g, h, rfl, rfl, hgh⟩ <;> rfl
        · rw [if_neg h3, if_neg h3]; rfl
theorem bval_opt {xs : List Int} : ∀ (d p : Nat), rval xs d p = optOf (bval xs d p) := by
  intro d
  induction d with
  | zero => intro p; exact bvalWith_opt (.inl ⟨rfl, rfl⟩) p
  | succ d ih => intro p; exact bvalWith_opt (.inr ⟨_, _, rfl, rfl, ih⟩) p
theorem bvals_le {xs : List Int} {g : Nat → Val × Nat × Bool} (hg : ∀ p, p ≤ xs.length → (g p).2.1 ≤ xs.length) : ∀ (n p : Nat), p ≤ xs.length → (bvals g n p).2.1 ≤ xs.length := by
  intro n
  induction n with
  | zero => intro p h; exact h
  | succ n ih =>
    intro p h
    simp only [bvals]
    cases (g p).2.2 with
    | true => exact hg p h
    | false => exact ih _ (hg p h)
theorem bval_le {xs : List Int} : ∀ (d p : Nat), p ≤ xs.length → (bval xs d p).2.1 ≤ xs.length := by
  have key : ∀ (sub : Option (Nat → Val × Nat × Bool)), (∀ g, sub = some g → ∀ p, p ≤ xs.length → (g p).2.1 ≤ xs.length) → ∀ p, p ≤ xs.length → (bvalWith xs sub p).2.1 ≤ xs.length := by
    intro sub hs p hp
    unfold bvalWith
    by_cases hlt : p < xs.length
    · have hb : (bnum xs (p + 1)).2.1 ≤ xs.length := bnumF_le 10 (p + 1) 0 (by omega)
      generalize bnum xs (p + 1) = z at hb ⊢
      obtain ⟨u, q, b⟩ := z
      simp only at hb ⊢
      split
      · exact hb
      · split
        · split
          · exact hb
          · rename_i h; simp only at h ⊢; omega
        · split
          · split
            · exact hb
            · cases sub with
              | none => exact hb
              | some g => exact bvals_le (hs g rfl) _ _ hb
          · exact np_le hp
    · have : nc xs p = 0 := (nc_none (List.getElem?_eq_none (by omega))).1
      rw [this, if_neg (by decide), if_neg (by decide), if_neg (by decide)]
      exact np_le hp
  intro d
  induction d with
  | zero => exact key none (fun g h => by cases h)
  | succ d ih => exact key _ (fun g h => by cases h; exact ih)

end Go.Proofs.Ytlccnbnnlfbfjaa
