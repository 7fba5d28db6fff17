/- Reading values out of bytes: what is read, and that it is just what was encoded. Plain Lean, no program in sight. -/
import Derived.Test.YtlccnbnnlfbfjaaCodecSame
namespace Go.Proofs.Ytlccnbnnlfbfjaa
open Go

/-- A numeral from place 'p' on, of f digits at the most, behind digits that are worth u: the number, and the place behind it. -/
def rnum (xs : List Int) : Nat → Nat → Nat → Option (Nat × Nat)
  | 0, _, _ => none
  | f + 1, p, u => match xs[p]? with
    | none => none
    | some c => if (f = 9 ∨ c ≠ 0) ∧ (f ≠ 0 ∨ c ≤ 1) then (if c < 128 then some (u + (c % 128).toNat * 128 ^ (9 - f), p + 1) else rnum xs f (p + 1) (u + (c % 128).toNat * 128 ^ (9 - f))) else none

def Bytes (xs : List Int) : Prop := ∀ x ∈ xs, 0 ≤ x ∧ x < 256

theorem drop_of_get {xs : List Int} {p : Nat} {c : Int} (h : xs[p]? = some c) : xs.drop p = c :: xs.drop (p + 1) ∧ p < xs.length := by
  obtain ⟨hp, rfl⟩ := List.getElem?_eq_some_iff.1 h
  exact ⟨List.drop_eq_getElem_cons hp, hp⟩
theorem get_of_drop {xs r : List Int} {p : Nat} {c : Int} (h : xs.drop p = c :: r) : xs[p]? = some c ∧ xs.drop (p + 1) = r := by
  have h1 : (xs.drop p)[0]? = some c := by rw [h]; rfl
  refine ⟨by simpa using h1, ?_⟩
  have h2 : (xs.drop p).drop 1 = r := by rw [h]; rfl
  rw [List.drop_drop] at h2
  rw [← h2]

theorem rnum_sound {xs : List Int} (hb : Bytes xs) : ∀ (f p u v q : Nat), f ≤ 9 → rnum xs (f + 1) p u = some (v, q) →
    ∃ w, v = u + w * 128 ^ (9 - f) ∧ xs.drop p = dig w ++ xs.drop q ∧ (f ≠ 9 → w ≠ 0) ∧ q ≤ xs.length ∧ p < q ∧ w < 2 * 128 ^ f := by
  intro f
  induction f with
  | zero =>
    intro p u v q hf h
    simp only [rnum] at h
    cases hc : xs[p]? with
    | none => rw [hc] at h; simp at h
    | some c =>
      rw [hc] at h
      obtain ⟨hd, hp⟩ := drop_of_get hc
      have hcb := hb c (List.mem_of_getElem? hc)
      simp only at h
      split at h
      · rename_i hcond
        have hc1 : c ≠ 0 ∧ c ≤ 1 := by omega
        obtain ⟨rfl⟩ : c = 1 := by omega
        simp at h
        obtain ⟨rfl, rfl⟩ := h
        exact ⟨1, by simp, by rw [hd, dig_lt (by decide)]; rfl, by simp, by omega, by omega, by decide⟩
      · cases h
  | succ f ih =>
    intro p u v q hf h
    rw [rnum] at h
    cases hc : xs[p]? with
    | none => rw [hc] at h; simp at h
    | some c =>
      rw [hc] at h
      obtain ⟨hd, hp⟩ := drop_of_get hc
      have hcb := hb c (List.mem_of_getElem? hc)
      simp only at h
      split at h
      · rename_i hcond
        split at h
        · rename_i hlt
          simp only [Option.some.injEq, Prod.mk.injEq] at h
          obtain ⟨rfl, rfl⟩ := h
          have hm : c % 128 = c := by omega
          refine ⟨c.toNat, by rw [hm], ?_, ?_, by omega, by omega, ?_⟩
          · rw [hd, dig_lt (by omega)]
            have : ((c.toNat : Nat) : Int) = c := by omega
            rw [this]; rfl
          · intro hne; omega
          · have : 128 ≤ 128 ^ (f + 1) := by rw [Nat.pow_succ]; have := Nat.pow_pos (n := f) (show 0 < 128 by decide); omega
            omega
        · rename_i hge
          obtain ⟨w, h1, h2, h3, h4, h5, h6⟩ := ih (p + 1) _ v q (by omega) h
          have hw : w ≠ 0 := h3 (by omega)
          have e1 : ((c % 128).toNat + 128 * w) % 128 = (c % 128).toNat := by omega
          have e2 : ((c % 128).toNat + 128 * w) / 128 = w := by omega
          refine ⟨(c % 128).toNat + 128 * w, ?_, ?_, by intro _; omega, h4, by omega, ?_⟩
          · have : 9 - f = (9 - (f + 1)) + 1 := by omega
            rw [h1, this, Nat.pow_succ, Nat.add_mul]
            have : w * (128 ^ (9 - (f + 1)) * 128) = 128 * w * 128 ^ (9 - (f + 1)) := by rw [Nat.mul_comm (128 ^ _) 128, ← Nat.mul_assoc, Nat.mul_comm w 128]
            omega
          · rw [hd, dig_ge (by omega), e1, e2, h2]
            have : (((c % 128).toNat + 128 : Nat) : Int) = c := by omega
            rw [this]; rfl
          · rw [Nat.pow_succ]; omega
      · cases h

theorem rnum_complete {xs : List Int} : ∀ (f p u w : Nat) (r : List Int), f ≤ 9 → xs.drop p = dig w ++ r → w < 2 * 128 ^ f → (f ≠ 9 → w ≠ 0) → rnum xs (f + 1) p u = some (u + w * 128 ^ (9 - f), p + (dig w).length) := by
  intro f
  induction f with
  | zero =>
    intro p u w r hf hd hw h0
    have hw1 : w = 1 := by have := h0 (by decide); simp at hw; omega
    subst hw1
    rw [dig_lt (by decide)] at hd ⊢
    obtain ⟨hg, _⟩ := get_of_drop hd
    simp [rnum, hg]
  | succ f ih =>
    intro p u w r hf hd hw h0
    rw [rnum]
    by_cases hlt : w < 128
    · rw [dig_lt hlt] at hd ⊢
      obtain ⟨hg, _⟩ := get_of_drop hd
      rw [hg]
      have hm : (((w : Int)) % 128).toNat = w := by omega
      simp only
      rw [if_pos ⟨by omega, by omega⟩, if_pos (by omega), hm]
      rfl
    · rw [dig_ge (by omega)] at hd ⊢
      obtain ⟨hg, hr⟩ := get_of_drop hd
      rw [hg]
      simp only
      have hm : (((w % 128 + 128 : Nat) : Int) % 128).toNat = w % 128 := by omega
      rw [if_pos ⟨by omega, by omega⟩, if_neg (by omega), hm]
      have := ih (p + 1) (u + w % 128 * 128 ^ (9 - (f + 1))) (w / 128) r (by omega) hr (by rw [Nat.pow_succ] at hw; omega) (by intro _; omega)
      rw [this]
      have e : 9 - f = (9 - (f + 1)) + 1 := by omega
      rw [e, Nat.pow_succ]
      have hsum : w = w % 128 + 128 * (w / 128) := by omega
      have : w / 128 * (128 ^ (9 - (f + 1)) * 128) = 128 * (w / 128) * 128 ^ (9 - (f + 1)) := by rw [Nat.mul_comm (128 ^ _) 128, ← Nat.mul_assoc, Nat.mul_comm (w / 128) 128]
      rw [this, Nat.add_assoc, ← Nat.add_mul, ← hsum]
      simp only [List.length_cons, Option.some.injEq, Prod.mk.injEq, true_and]
      omega

/-- A number. -/
def rnumber (xs : List Int) (p : Nat) : Option (Nat × Nat) := rnum xs 10 p 0
theorem rnumber_sound {xs : List Int} (hb : Bytes xs) {p v q : Nat} (h : rnumber xs p = some (v, q)) : xs.drop p = dig v ++ xs.drop q ∧ q ≤ xs.length ∧ p < q ∧ v < 18446744073709551616 := by
  obtain ⟨w, h1, h2, _, h4, h5, h6⟩ := rnum_sound hb 9 p 0 v q (by omega) h
  simp at h1
  subst h1
  exact ⟨h2, h4, h5, by simpa using h6⟩
theorem rnumber_complete {xs r : List Int} {p w : Nat} (h : xs.drop p = dig w ++ r) (hw : w < 18446744073709551616) : rnumber xs p = some (w, p + (dig w).length) := by
  have := rnum_complete 9 p 0 w r (by omega) h (by simpa using hw) (by simp)
  simpa [rnumber] using this
/-- The number of what follows. -/
def rlength (xs : List Int) (p : Nat) : Option (Nat × Nat) := match rnumber xs p with
  | none => none
  | some (n, q) => if n ≤ xs.length - q then some (n, q) else none

def bytesOf (l : List Int) : ByteArray := ⟨(l.map fun x => UInt8.ofNat x.toNat).toArray⟩
theorem bytesOf_bytesI (s : ByteArray) : bytesOf (bytesI s) = s := by
  apply ByteArray.ext
  have e : ((fun x : Int => UInt8.ofNat x.toNat) ∘ fun b : UInt8 => (b.toNat : Int)) = id := by funext b; simp
  simp [bytesOf, bytesI, e]
theorem bytesI_bytesOf {l : List Int} (hb : Bytes l) : bytesI (bytesOf l) = l := by
  simp only [bytesI, bytesOf, List.map_map]
  conv => rhs; rw [← List.map_id l]
  apply List.map_congr_left
  intro x hx
  have := hb x hx
  simp
  omega
theorem bytesI_bytes (s : ByteArray) : Bytes (bytesI s) := by
  intro x hx
  simp only [bytesI, List.mem_map] at hx
  obtain ⟨b, _, rfl⟩ := hx
  have := UInt8.toNat_lt b
  omega
theorem bytesOf_size (l : List Int) : (bytesOf l).size = l.length := by simp [bytesOf, ByteArray.size]

def rvals (g : Nat → Option (Val × Nat)) : Nat → Nat → Option (List Val × Nat)
  | 0, p => some ([], p)
  | n + 1, p => match g p with
    | none => none
    | some (v, q) => match rvals g n q with
      | none => none
      | some (l, r) => some (v :: l, r)
def rvalWith (xs : List Int) (sub : Option (Nat → Option (Val × Nat))) (p : Nat) : Option (Val × Nat) := match xs[p]? with
  | none => none
  | some c => if c = 1 then (match rnumber xs (p + 1) with
      | none => none
      | some (u, q) => some (.mk 1 (zag u) ⟨#[]⟩ [], q))
    else if c = 2 then (match rlength xs (p + 1) with
      | none => none
      | some (n, q) => some (.mk 2 0 (bytesOf ((xs.drop q).take n)) [], q + n))
    else if c = 3 then (match sub with
      | none => none
      | some g => match rlength xs (p + 1) with
        | none => none
        | some (n, q) => match rvals g n q with
          | none => none
          | some (l, r) => some (.mk 3 0 ⟨#[]⟩ l, r))
    else none
/-- A value that may have d levels of lists. -/
def rval (xs : List Int) : Nat → Nat → Option (Val × Nat)
  | 0 => rvalWith xs none
  | d + 1 => rvalWith xs (some (rval xs d))

theorem rlength_sound {xs : List Int} (hb : Bytes xs) {p n q : Nat} (h : rlength xs p = some (n, q)) : xs.drop p = dig n ++ xs.drop q ∧ q + n ≤ xs.length ∧ p < q ∧ n < 18446744073709551616 := by
  unfold rlength at h
  cases hn : rnumber xs p with
  | none => rw [hn] at h; cases h
  | some x =>
    obtain ⟨n', q'⟩ := x
    rw [hn] at h
    simp only at h
    split at h
    · rename_i hle
      simp only [Option.some.injEq, Prod.mk.injEq] at h
      obtain ⟨rfl, rfl⟩ := h
      obtain ⟨h1, h2, h3, h4⟩ := rnumber_sound hb hn
      exact ⟨h1, by omega, h3, h4⟩
    · cases h
theorem rlength_complete {xs r : List Int} {p n : Nat} (h : xs.drop p = dig n ++ r) (hn : n ≤ r.length) (hw : n < 18446744073709551616) : rlength xs p = some (n, p + (dig n).length) ∧ xs.drop (p + (dig n).length) = r := by
  have hr : xs.drop (p + (dig n).length) = r := by rw [← List.drop_drop, h]; simp
  have hl := congrArg List.length hr
  simp only [List.length_drop] at hl
  refine ⟨?_, hr⟩
  unfold rlength
  rw [rnumber_complete h hw]
  simp only
  rw [if_pos (by omega)]

/-- What a reader of values hands back is well-formed, of the levels that are allowed, and its encoding is just what was read. -/
structure Read (xs : List Int) (d p : Nat) (v : Val) (q : Nat) : Prop where
  formed : v.formed = true
  depth : v.depth ≤ d
  sz : v.Sz
  enc : xs.drop p = v.enc ++ xs.drop q
  le : q ≤ xs.length
  lt : p < q

theorem zag_bd {u : Nat} (h : u < 18446744073709551616) : -9223372036854775808 ≤ zag u ∧ zag u ≤ 9223372036854775807 := by
  unfold zag; split <;> omega

theorem rvals_sound {xs : List Int} {d : Nat} {g : Nat → Option (Val × Nat)} (hg : ∀ p v q, g p = some (v, q) → Read xs d p v q) : ∀ (n p : Nat) (l : List Val) (q : Nat), p ≤ xs.length → rvals g n p = some (l, q) →
    l.length = n ∧ Val.formeds l = true ∧ Val.depths l ≤ d ∧ (∀ x ∈ l, x.Sz) ∧ xs.drop p = Val.encs l ++ xs.drop q ∧ q ≤ xs.length ∧ p ≤ q := by
  intro n
  induction n with
  | zero => intro p l q hp h; simp only [rvals, Option.some.injEq, Prod.mk.injEq] at h; obtain ⟨rfl, rfl⟩ := h; exact ⟨rfl, rfl, by simp [Val.depths], by simp, by simp [Val.encs], hp, Nat.le_refl _⟩
  | succ n ih =>
    intro p l q hp h
    simp only [rvals] at h
    cases hv : g p with
    | none => rw [hv] at h; cases h
    | some x =>
      obtain ⟨v, q1⟩ := x
      rw [hv] at h
      simp only at h
      have hr := hg p v q1 hv
      cases hl : rvals g n q1 with
      | none => rw [hl] at h; cases h
      | some y =>
        obtain ⟨l1, q2⟩ := y
        rw [hl] at h
        simp only [Option.some.injEq, Prod.mk.injEq] at h
        obtain ⟨rfl, rfl⟩ := h
        obtain ⟨h1, h2, h3, h4, h5, h6, h7⟩ := ih q1 l1 q2 hr.le hl
        refine ⟨by simp [h1], by simp [Val.formeds, hr.formed, h2], by simp only [Val.depths]; have := hr.depth; omega, ?_, ?_, h6, by have := hr.lt; omega⟩
        · intro x hx
          rcases List.mem_cons.1 hx with rfl | hx
          · exact hr.sz
          · exact h4 x hx
        · rw [hr.enc, h5, Val.encs, List.append_assoc]

theorem rvalWith_sound {xs : List Int} (hb : Bytes xs) (hxs : xs.length ≤ 140737488355328) {d : Nat} {sub : Option (Nat → Option (Val × Nat))} (hsub : ∀ g, sub = some g → ∃ d', d = d' + 1 ∧ ∀ p v q, g p = some (v, q) → Read xs d' p v q) {p : Nat} {v : Val} {q : Nat}
    (h : rvalWith xs sub p = some (v, q)) : Read xs d p v q := by
  unfold rvalWith at h
  cases hc : xs[p]? with
  | none => rw [hc] at h; cases h
  | some c =>
    rw [hc] at h
    obtain ⟨hd, hp⟩ := drop_of_get hc
    simp only at h
    split at h
    · rename_i h1
      subst h1
      cases hn : rnumber xs (p + 1) with
      | none => rw [hn] at h; cases h
      | some x =>
        obtain ⟨u, q'⟩ := x
        rw [hn] at h
        simp only [Option.some.injEq, Prod.mk.injEq] at h
        obtain ⟨rfl, rfl⟩ := h
        obtain ⟨e1, e2, e3, e4⟩ := rnumber_sound hb hn
        refine ⟨by simp [Val.formed], by simp [Val.depth], .mk _ _ _ _ (by omega) (zag_bd e4) (by decide) (by simp) (by simp), ?_, e2, by omega⟩
        rw [Val.enc_int, zig_zag, hd, e1]; rfl
    · split at h
      · rename_i h1
        subst h1
        cases hn : rlength xs (p + 1) with
        | none => rw [hn] at h; cases h
        | some x =>
          obtain ⟨n, q'⟩ := x
          rw [hn] at h
          simp only [Option.some.injEq, Prod.mk.injEq] at h
          obtain ⟨rfl, rfl⟩ := h
          obtain ⟨e1, e2, e3, e4⟩ := rlength_sound hb hn
          have hsz : (bytesOf ((xs.drop q').take n)).size = n := by rw [bytesOf_size]; simp; omega
          refine ⟨by simp [Val.formed], by simp [Val.depth], .mk _ _ _ _ (by omega) (by omega) (by rw [hsz]; omega) (by simp) (by simp), ?_, e2, by omega⟩
          rw [Val.enc_text, hsz, bytesI_bytesOf (fun x hx => hb x (List.mem_of_mem_drop (List.mem_of_mem_take hx))), hd, e1]
          have : xs.drop q' = (xs.drop q').take n ++ xs.drop (q' + n) := by rw [← List.drop_drop, List.take_append_drop]
          simp only [List.cons_append, List.append_assoc]
          rw [← this]
      · split at h
        · rename_i h1
          subst h1
          cases hs : sub with
          | none => rw [hs] at h; cases h
          | some g =>
            rw [hs] at h
            simp only at h
            obtain ⟨d', rfl, hg⟩ := hsub g hs
            cases hn : rlength xs (p + 1) with
            | none => rw [hn] at h; cases h
            | some x =>
              obtain ⟨n, q'⟩ := x
              rw [hn] at h
              simp only at h
              obtain ⟨e1, e2, e3, e4⟩ := rlength_sound hb hn
              cases hl : rvals g n q' with
              | none => rw [hl] at h; cases h
              | some y =>
                obtain ⟨l, r⟩ := y
                rw [hl] at h
                simp only [Option.some.injEq, Prod.mk.injEq] at h
                obtain ⟨rfl, rfl⟩ := h
                obtain ⟨f1, f2, f3, f4, f5, f6, f7⟩ := rvals_sound hg n q' l r (by omega) hl
                refine ⟨by simp [Val.formed, f2], by simp [Val.depth]; omega, .mk _ _ _ _ (by omega) (by omega) (by decide) (by omega) f4, ?_, f6, by omega⟩
                rw [Val.enc_list, f1, hd, e1, f5]
                simp
        · cases h
theorem rval_sound {xs : List Int} (hb : Bytes xs) (hxs : xs.length ≤ 140737488355328) : ∀ (d p : Nat) (v : Val) (q : Nat), rval xs d p = some (v, q) → Read xs d p v q := by
  intro d
  induction d with
  | zero => intro p v q h; exact rvalWith_sound hb hxs (fun g hg => by cases hg) h
  | succ d ih => intro p v q h; exact rvalWith_sound hb hxs (fun g hg => by cases hg; exact ⟨d, rfl, ih⟩) h

theorem Val.enc_pos (v : Val) : 1 ≤ v.enc.length := by
  rcases v with ⟨k, n, s, l⟩
  simp only [Val.enc]
  split
  · simp
  · split <;> simp
theorem Val.encs_length_ge (l : List Val) : l.length ≤ (Val.encs l).length := by
  induction l with
  | nil => simp
  | cons x r ih => have := Val.enc_pos x; simp only [Val.encs, List.length_append, List.length_cons]; omega

theorem rvals_complete {xs : List Int} {g : Nat → Option (Val × Nat)} : ∀ (l : List Val) (p : Nat) (r : List Int), (∀ v ∈ l, ∀ p r, xs.drop p = v.enc ++ r → g p = some (v, p + v.enc.length)) → xs.drop p = Val.encs l ++ r → rvals g l.length p = some (l, p + (Val.encs l).length) := by
  intro l
  induction l with
  | nil => intro p r _ _; simp [rvals, Val.encs]
  | cons x t ih =>
    intro p r hg hd
    simp only [List.length_cons, rvals]
    rw [Val.encs, List.append_assoc] at hd
    rw [hg x (by simp) p _ hd]
    simp only
    have hr : xs.drop (p + x.enc.length) = Val.encs t ++ r := by rw [← List.drop_drop, hd]; simp
    rw [ih (p + x.enc.length) r (fun v hv => hg v (by simp [hv])) hr]
    simp only [Val.encs, List.length_append, Option.some.injEq, Prod.mk.injEq, true_and]
    omega

theorem Val.formed_int {n : Int} {s : ByteArray} {l : List Val} (h : (Val.mk 1 n s l).formed = true) : s = ⟨#[]⟩ ∧ l = [] := by
  rw [Val.formed_eq] at h
  simpa using h
theorem Val.formed_text {n : Int} {s : ByteArray} {l : List Val} (h : (Val.mk 2 n s l).formed = true) : n = 0 ∧ l = [] := by
  rw [Val.formed_eq] at h
  simpa using h
theorem rval_complete {xs : List Int} : ∀ (d : Nat) (v : Val), v.formed = true → v.depth ≤ d → v.Sz → ∀ (p : Nat) (r : List Int), xs.drop p = v.enc ++ r → rval xs d p = some (v, p + v.enc.length) := by
  have step : ∀ (d : Nat) (sub : Option (Nat → Option (Val × Nat))), (∀ v : Val, v.formed = true → v.depth + 1 ≤ d → v.Sz → ∃ g, sub = some g ∧ ∀ (p : Nat) (r : List Int), xs.drop p = v.enc ++ r → g p = some (v, p + v.enc.length)) → (1 ≤ d → sub ≠ none) →
      ∀ (v : Val), v.formed = true → v.depth ≤ d → v.Sz → ∀ (p : Nat) (r : List Int), xs.drop p = v.enc ++ r → rvalWith xs sub p = some (v, p + v.enc.length) := by
    intro d sub hsub hne v hf hdp hz p r hd
    rcases v with ⟨k, n, s, l⟩
    unfold rvalWith
    cases hz with
    | mk _ _ _ _ hk hn hs hl hm =>
      rcases Val.kind_of hf with rfl | rfl | rfl
      · rw [Val.enc_int] at hd ⊢
        obtain ⟨rfl, rfl⟩ := Val.formed_int hf
        obtain ⟨hg, hr⟩ := get_of_drop hd
        rw [hg]
        simp only
        rw [if_pos trivial, rnumber_complete hr (zig_lt hn)]
        simp only [zag_zig, Option.some.injEq, Prod.mk.injEq, true_and, List.length_cons]
        omega
      · rw [Val.enc_text] at hd ⊢
        obtain ⟨rfl, rfl⟩ := Val.formed_text hf
        obtain ⟨hg, hr⟩ := get_of_drop hd
        rw [hg]
        simp only
        have hr' : xs.drop (p + 1) = dig s.size ++ (bytesI s ++ r) := by rw [hr]; exact List.append_assoc _ _ _
        obtain ⟨e1, e2⟩ := rlength_complete hr' (by simp [bytesI_length]) (by omega)
        rw [if_neg (by decide), if_pos trivial, e1]
        simp only
        have : (bytesI s ++ r).take s.size = bytesI s := by rw [← bytesI_length]; simp
        rw [e2, this, bytesOf_bytesI]
        simp only [Option.some.injEq, Prod.mk.injEq, true_and, List.length_cons, List.length_append, bytesI_length]
        omega
      · rw [Val.enc_list] at hd ⊢
        obtain ⟨rfl, rfl, hfl⟩ := Val.formed_list hf
        obtain ⟨hg, hr⟩ := get_of_drop hd
        rw [hg]
        simp only
        have hr' : xs.drop (p + 1) = dig l.length ++ (Val.encs l ++ r) := by rw [hr]; exact List.append_assoc _ _ _
        have hdl : 1 + Val.depths l ≤ d := by simpa [Val.depth] using hdp
        obtain ⟨e1, e2⟩ := rlength_complete hr' (by have := Val.encs_length_ge l; simp; omega) (by omega)
        rw [if_neg (by decide), if_neg (by decide), if_pos trivial]
        cases hs : sub with
        | none => exact absurd hs (hne (by omega))
        | some g =>
          simp only
          rw [e1]
          simp only
          have := rvals_complete (g := g) l (p + 1 + (dig l.length).length) r (fun v hv p r h => by
            obtain ⟨g', hg', h'⟩ := hsub v (Val.formeds_mem hfl v hv) (by have := Val.depth_mem v hv; omega) (hm v hv)
            rw [hs] at hg'; cases hg'
            exact h' p r h) e2
          rw [this]
          simp only [Option.some.injEq, Prod.mk.injEq, true_and, List.length_cons, List.length_append]
          omega
  intro d
  induction d with
  | zero => intro v hf hd hz p r h; exact step 0 none (fun v _ h _ => by omega) (by omega) v hf hd hz p r h
  | succ d ih => intro v hf hd hz p r h; exact step (d + 1) (some (rval xs d)) (fun v hf h hz => ⟨_, rfl, ih v hf (by omega) hz⟩) (fun _ => by simp) v hf hd hz p r h

/-! Equal values. -/
mutual
theorem Val.same_refl : ∀ v : Val, Val.same v v = true
  | .mk k n s l => by simp [Val.same, Val.sames_refl l]
theorem Val.sames_refl : ∀ l : List Val, Val.sames l l = true
  | [] => rfl
  | x :: r => by simp [Val.sames, Val.same_refl x, Val.sames_refl r]
end
mutual
theorem Val.same_eq : ∀ {v w : Val}, Val.same v w = true → v = w
  | .mk k n s l, .mk k' n' s' l', h => by
    simp only [Val.same, Bool.and_eq_true, decide_eq_true_eq] at h
    obtain ⟨⟨⟨rfl, rfl⟩, rfl⟩, h⟩ := h
    rw [Val.sames_eq h]
theorem Val.sames_eq : ∀ {l m : List Val}, Val.sames l m = true → l = m
  | [], [], _ => rfl
  | [], _ :: _, h => by simp [Val.sames] at h
  | _ :: _, [], h => by simp [Val.sames] at h
  | x :: r, y :: t, h => by
    simp only [Val.sames, Bool.and_eq_true] at h
    rw [Val.same_eq h.1, Val.sames_eq h.2]
end

/-- What Decode answers. -/
def decoded (xs : List Int) : Option Val := match rval xs 16 0 with
  | some (v, q) => if q = xs.length then some v else none
  | none => none
theorem decoded_sound {xs : List Int} (hb : Bytes xs) (hxs : xs.length ≤ 140737488355328) {v : Val} (h : decoded xs = some v) : v.formed = true ∧ v.depth ≤ 16 ∧ v.Sz ∧ v.enc = xs := by
  unfold decoded at h
  split at h
  · rename_i w q hw
    split at h
    · rename_i hq
      simp only [Option.some.injEq] at h
      subst h
      have := rval_sound hb hxs 16 0 w q hw
      refine ⟨this.formed, this.depth, this.sz, ?_⟩
      have he := this.enc
      rw [hq] at he
      simpa using he.symm
    · cases h
  · cases h
theorem decoded_complete {v : Val} (hf : v.formed = true) (hd : v.depth ≤ 16) (hz : v.Sz) : decoded v.enc = some v := by
  unfold decoded
  rw [rval_complete 16 v hf hd hz 0 [] (by simp)]
  simp

end Go.Proofs.Ytlccnbnnlfbfjaa
