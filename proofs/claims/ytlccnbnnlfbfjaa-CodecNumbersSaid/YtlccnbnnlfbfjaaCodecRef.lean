/- How many parts a value has; what few parts say of its encoding. Plain Lean, no program in sight. -/
import Derived.Test.YtlccnbnnlfbfjaaCodecEnc
namespace Go.Proofs.Ytlccnbnnlfbfjaa
open Go

mutual
def Val.count : Val → Int → Int
  | .mk _ _ s l, d => if d < 0 ∨ 150 < l.length then 1000 else Val.counts l (d - 1) (1 + ((s.size / 200 : Nat) : Int))
def Val.counts : List Val → Int → Int → Int
  | [], _, n => n
  | x :: r, d, n => if n ≤ 1000 then Val.counts r d (n + x.count d) else n
end
theorem Val.counts_stop (l : List Val) (d n : Int) (h : 1000 < n) : Val.counts l d n = n := by
  cases l with
  | nil => simp [Val.counts]
  | cons x r => rw [Val.counts, if_neg (by omega)]
theorem Val.count_bound (v : Val) (hz : v.Sz) : ∀ d : Int, -1 ≤ d → 0 ≤ v.count d ∧ v.count d ≤ 1000000000000 + 1000 * (d + 2) := by
  induction hz with
  | mk k n s l _ _ hs _ _ ih =>
    intro d hd
    simp only [Val.count]
    split
    · omega
    · rename_i hc
      have key : ∀ (m : List Val) (z : Int), (∀ x ∈ m, x ∈ l) → 0 ≤ z → z ≤ 1000000000000 + 1000 * (d + 2) → 0 ≤ Val.counts m (d - 1) z ∧ Val.counts m (d - 1) z ≤ 1000000000000 + 1000 * (d + 2) := by
        intro m
        induction m with
        | nil => intro z _ h0 h1; simp only [Val.counts]; exact ⟨h0, h1⟩
        | cons x r ihr =>
          intro z hm h0 h1
          simp only [Val.counts]
          split
          · have := ih x (hm x (by simp)) (d - 1) (by omega)
            exact ihr _ (fun y hy => hm y (by simp [hy])) (by omega) (by omega)
          · exact ⟨h0, h1⟩
      exact key l _ (fun x h => h) (by omega) (by omega)
theorem Val.counts_ge (l : List Val) (hl : ∀ x ∈ l, x.Sz) (d n : Int) (hd : -1 ≤ d) : n ≤ Val.counts l d n := by
  induction l generalizing n with
  | nil => simp [Val.counts]
  | cons x r ih =>
    simp only [Val.counts]
    split
    · have := (Val.count_bound x (hl x (by simp)) d hd).1
      have := ih (fun y hy => hl y (by simp [hy])) (n + x.count d)
      omega
    · omega
/-- Few parts: a short encoding, few levels. -/
theorem Val.count_enc (v : Val) (hz : v.Sz) : ∀ d : Int, -1 ≤ d → v.count d < 1000 → ((v.enc.length : Int) ≤ 400 * v.count d ∧ (v.depth : Int) ≤ d + 1) ∧ 0 ≤ d := by
  induction hz with
  | mk k n s l _ hn hs hl hm ih =>
    intro d hd hc
    simp only [Val.count] at hc ⊢
    split at hc
    · omega
    · rename_i hcc
      rw [if_neg hcc]
      have key : ∀ (m : List Val) (z : Int), (∀ x ∈ m, x ∈ l) → 1 ≤ z → Val.counts m (d - 1) z < 1000 → ((Val.encs m).length : Int) + 400 * z ≤ 400 * Val.counts m (d - 1) z ∧ (Val.depths m : Int) ≤ d := by
        intro m
        induction m with
        | nil => intro z _ h0 h1; simp [Val.counts, Val.encs, Val.depths]; omega
        | cons x r ihr =>
          intro z hmm h0 h1
          simp only [Val.counts] at h1 ⊢
          have hzl : z ≤ 1000 := by
            rcases Int.lt_or_le 1000 z with h | h
            · rw [if_neg (by omega)] at h1; omega
            · exact h
          rw [if_pos hzl] at h1 ⊢
          have hge := Val.counts_ge r (fun y hy => hm y (hmm y (by simp [hy]))) (d - 1) (z + x.count (d - 1)) (by omega)
          have hb := Val.count_bound x (hm x (hmm x (by simp))) (d - 1) (by omega)
          have h2 := ih x (hmm x (by simp)) (d - 1) (by omega) (by omega)
          have h3 := ihr (z + x.count (d - 1)) (fun y hy => hmm y (by simp [hy])) (by omega) h1
          simp only [Val.encs, Val.depths, List.length_append]
          omega
      have h0 := key l _ (fun x h => h) (by omega) hc
      have hz2 := dig_length10 (zig_lt hn)
      have hz3 := dig_length10 (u := s.size) (by omega)
      have hz4 := dig_length10 (u := l.length) (by omega)
      refine ⟨⟨?_, ?_⟩, by omega⟩
      · simp only [Val.enc]
        split
        · simp only [List.length_cons]; omega
        · split
          · simp only [List.length_cons, List.length_append, bytesI_length]; omega
          · simp only [List.length_cons, List.length_append]; omega
      · simp only [Val.depth]
        split <;> omega

end Go.Proofs.Ytlccnbnnlfbfjaa
