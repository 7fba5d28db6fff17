/- A slice of slices whose rows grow: nil rows as a family; one row out of the family and back; all rows frozen. No program in sight. -/
import Derived.Test.YtcnikeonaklkoaaFam
import Derived.Test.YtcnikeonaklkoaaNil
namespace Go.Proofs.Ytcnikeonaklkoaa
open Go
set_option linter.unusedVariables false
set_option linter.unusedSimpArgs false
variable {P : Program} {S : St} {ro : Ro} {ops : Array Oper} {E : Env}

theorem bk_inj {l m : Nat} (h : bk l = bk m) : l = m := by unfold bk at h; omega
abbrev noRows (n : Nat) : List (List Int) := List.replicate n []
theorem noRows_at (n i : Nat) : (noRows n).getD i [] = [] := by simp [noRows, List.getD_eq_getElem?_getD, List.getElem?_replicate]; split <;> rfl
theorem matC_at {rows : List (List Int)} {j : Nat} {x : AV} (h : (matC rows)[j]? = some x) : j < rows.length ∧ x = .own (inn j) (rows.getD j []).length := by
  have hj : j < rows.length := by have := (List.getElem?_eq_some_iff.1 h).1; rwa [matC_length] at this
  rw [matC_get hj] at h; injection h with h; exact ⟨hj, h.symm⟩

/-- Nil rows as rows that the function owns. -/
theorem Ghost.famNil {l n : Nat} (hl : l < 400) (hb : S.get (bk l) = some (.blk (.appv (List.replicate n nilS)))) (hno : ∀ i, S.get (bk (inn i)) = none) (hm : ∀ i, NM S (inn i) []) (hk : ∀ k ∈ E.keep, k < 400) {T : St}
    (hT : ∀ m c, T.get m = some c → (m = bk l ∧ c = .blk (.appv (matC (noRows n)))) ∨ (∃ i, m = bk (inn i) ∧ c = rowB []) ∨ (m ≠ bk l ∧ S.get m = some c)) : Ghost E S T := by
  rintro ac w ⟨V, M, hA, hW⟩
  obtain ⟨V', hV'⟩ : ∃ V' : Vals, V' = ⟨V.ρ, fun k => if 400 ≤ k then none else V.κ k⟩ := ⟨_, rfl⟩
  have hρ : ∀ k, V'.ρ k = V.ρ k := fun k => by rw [hV']
  have hκ1 : ∀ k, k < 400 → V'.κ k = V.κ k := fun k h => by rw [hV']; show (if 400 ≤ k then none else V.κ k) = V.κ k; exact if_neg (by omega)
  have hκ2 : ∀ i, V'.κ (inn i) = none := fun i => by
    have h4 : 400 ≤ inn i := by unfold inn; omega
    rw [hV']; show (if 400 ≤ inn i then none else V.κ (inn i)) = none; exact if_pos h4
  have hinn : ∀ k, 400 ≤ k → ∃ i, k = inn i := fun k h => ⟨k - 400, by unfold inn; omega⟩
  have hag : ∀ {m c}, S.get m = some c → ∀ k, CMent c k → V'.ρ k = V.ρ k ∧ V'.κ k = V.κ k := fun {m c} e k hc => by
    by_cases h4 : 400 ≤ k
    · obtain ⟨i, rfl⟩ := hinn k h4
      exact absurd hc (hm i m c e (by simp))
    · exact ⟨hρ k, hκ1 k (by omega)⟩
  have hH : ∀ k, HasB V' T k → HasB V S k ∧ V'.ρ k = V.ρ k := by
    rintro k ⟨⟨B, e⟩, h⟩
    have hk4 : k < 400 := by
      by_cases h4 : 400 ≤ k
      · obtain ⟨i, rfl⟩ := hinn k h4; exact absurd (hκ2 i) h
      · omega
    refine ⟨⟨?_, by rw [← hκ1 k hk4]; exact h⟩, hρ k⟩
    rcases hT _ _ e with ⟨h1, _⟩ | ⟨i, h1, _⟩ | ⟨_, h2⟩
    · exact ⟨_, bk_inj h1 ▸ hb⟩
    · have := bk_inj h1; unfold inn at this; omega
    · exact ⟨_, h2⟩
  refine ⟨V', M, ⟨fun t x e => ?_, hA.size, hA.defers⟩, ?_⟩
  · rcases hT _ _ e with ⟨h1, _⟩ | ⟨i, h1, _⟩ | ⟨_, h2⟩
    · exact absurd h1 (sl_ne_bk t l)
    · exact absurd h1 (sl_ne_bk t _)
    · obtain ⟨v, hv, hd⟩ := hA.slots t x h2
      exact ⟨v, hv, hd.mono (Mem.le_refl _) fun k hk' => hag h2 k hk'⟩
  · exact
    { blks := fun k B e => by
        rcases hT _ _ e with ⟨h1, h2⟩ | ⟨i, h1, h2⟩ | ⟨h1, h2⟩
        · have := bk_inj h1; subst this
          injection h2 with h2; subst h2
          have hblk : appvAt V M w k (List.replicate n nilS) := hW.blks k _ hb
          show appvAt V' M w k (matC (noRows n))
          unfold appvAt at *
          rw [hρ, hκ1 k hl]
          cases hk' : V.κ k with
          | none =>
            rw [hk'] at hblk
            simp only at hblk ⊢
            have : n = 0 := by simpa using hblk
            subst this; rfl
          | some cap =>
            rw [hk'] at hblk
            obtain ⟨g1, vs, t, g2, g3, g4⟩ := hblk
            refine ⟨by rw [matC_length]; simpa using g1, vs, t, g2, g3, fun j x hx => ?_⟩
            obtain ⟨hj, rfl⟩ := matC_at hx
            rw [noRows_at]
            have hj : j < n := by simpa using hj
            obtain ⟨v, hv, hd⟩ := g4 j nilS (by simp [List.getElem?_replicate, hj])
            refine ⟨v, hv, ?_⟩
            rw [den_v hd]
            exact .ownNil _ (hκ2 j)
        · have := bk_inj h1; subst this
          injection h2 with h2; subst h2
          refine ⟨rfl, fun c hc => ?_, ?_⟩
          · simp only [List.mem_singleton] at hc; subst hc; rfl
          · rw [hκ2]; rfl
        · have hk4 : k < 400 := by
            by_cases h4 : 400 ≤ k
            · obtain ⟨i, rfl⟩ := hinn k h4; rw [hno i] at h2; cases h2
            · omega
          exact (hW.blks k B h2).turn (Mem.le_refl _) ⟨hρ k, hκ1 k hk4⟩ (fun k' hk' => hag h2 k' hk') fun _ => rfl
      inj := fun a b ha hb' hne => by
        obtain ⟨x1, x2⟩ := hH a ha
        obtain ⟨y1, y2⟩ := hH b hb'
        rw [x2, y2]; exact hW.inj a b x1 y1 hne
      sep := fun a ha => by obtain ⟨x1, x2⟩ := hH a ha; rw [x2]; exact hW.sep a x1
      fresh := fun a ha => by obtain ⟨x1, x2⟩ := hH a ha; rw [x2]; exact hW.fresh a x1
      bd := fun a ha => by obtain ⟨x1, x2⟩ := hH a ha; rw [x2]; exact hW.bd a x1
      mem := hW.mem, mle := hW.mle, mnew := hW.mnew
      keep := fun k h => by rw [hρ, hκ1 k (hk k h)]; exact hW.keep k h
      frame := hW.frame }

/-! One row out of the family. -/
def famBut (rows : List (List Int)) (f : Nat) : St := ((List.range rows.length).filter fun i => !decide (i = f)).map fun i => (bk (inn i), rowB (rows.getD i []))
theorem but_get {rows : List (List Int)} {f i : Nat} : (famBut rows f).get (bk (inn i)) = if i < rows.length ∧ i ≠ f then some (rowB (rows.getD i [])) else none := by
  unfold famBut; rw [mapGet]; simp
theorem but_self {rows : List (List Int)} {f : Nat} : (famBut rows f).get (bk (inn f)) = none := by rw [but_get]; simp
theorem but_small {rows : List (List Int)} {f n : Nat} (h : n < 800) : (famBut rows f).get n = none := mapGet_small _ h _
theorem but_only {rows : List (List Int)} {f n : Nat} {c : Cont} (h : (famBut rows f).get n = some c) : ∃ i, i < rows.length ∧ i ≠ f ∧ n = bk (inn i) ∧ c = rowB (rows.getD i []) := by
  obtain ⟨i, hi, h1, h2⟩ := mapGet_only _ _ h
  simp at hi
  exact ⟨i, hi.1, hi.2, h1, h2⟩
theorem but_le {rows : List (List Int)} {f : Nat} : (famBut rows f).le (fam rows) := fun m c e => by
  obtain ⟨i, h1, h2, rfl, rfl⟩ := but_only e
  exact fam_get h1
theorem nm_but {rows : List (List Int)} {f l : Nat} {ns : List Nat} : NM (famBut rows f) l ns := fun n c e _ => by
  obtain ⟨i, h1, h2, rfl, rfl⟩ := but_only e
  exact fam_ment (fam_get h1)
theorem nm_dels {l : Nat} {ns ds : List Nat} (h : NM S l ns) : NM (St.dels ds S) l ns := fun n c e hn => by
  rw [get_dels] at e
  split at e
  · cases e
  · exact h n c e hn
theorem le_dels {T : St} {ds : List Nat} (h : T.le S) (hd : ∀ d ∈ ds, T.get d = none) : T.le (St.dels ds S) := fun n c e => by
  rw [get_dels, if_neg (fun hn => by rw [hd n hn] at e; cases e)]
  exact h n c e
theorem but_skip {rows : List (List Int)} {f n : Nat} {c : Cont} (h : (famBut rows f).le S) (hn : Nat.blt n 800 = true) : (famBut rows f).le ((n, c) :: S) := fun m d e => by
  have := Nat.le_of_ble_eq_true hn
  obtain ⟨i, _, _, rfl, rfl⟩ := but_only e
  rw [get_cons, if_neg (by unfold bk inn; omega)]
  exact h _ _ e
theorem but_back {rows : List (List Int)} {f : Nat} {r : List Int} {len : Nat} (h : (famBut rows f).le S) (hl : r.length = len) : (fam (rows.set f r)).le ((bk (inn f), .blk (.app 1 len [.ints .i64 r])) :: S) := fun m d e => by
  obtain ⟨j, hj, rfl, rfl⟩ := fam_only e
  simp only [List.length_set] at hj
  rw [get_cons]
  by_cases hij : f = j
  · subst hij
    rw [if_pos rfl]
    simp [List.getD_eq_getElem?_getD, hj, rowB, hl]
  · rw [if_neg (fun e => hij (inn_inj.1 e))]
    have e2 : (rows.set f r).getD j [] = rows.getD j [] := by simp [List.getD_eq_getElem?_getD, List.getElem?_set_ne hij]
    rw [e2]
    exact h _ _ (by rw [but_get, if_pos ⟨hj, Ne.symm hij⟩])
theorem matC_put {rows : List (List Int)} {f : Nat} {r : List Int} : (matC rows).set f (.own (inn f) r.length) = matC (rows.set f r) := by
  apply List.ext_getElem?
  intro j
  rw [List.getElem?_set, matC_length]
  by_cases hj : j < rows.length
  · rw [matC_get (rows := rows.set f r) (by simpa using hj)]
    by_cases hij : f = j
    · subst hij; simp [List.getD_eq_getElem?_getD, hj]
    · rw [if_neg hij, matC_get hj]; simp [List.getD_eq_getElem?_getD, List.getElem?_set_ne hij]
  · have h1 : (matC (rows.set f r))[j]? = none := List.getElem?_eq_none (by rw [matC_length]; simp; omega)
    rw [h1]
    split
    · rename_i hij; rw [if_neg (by omega)]
    · exact List.getElem?_eq_none (by rw [matC_length]; omega)
theorem matC_but {rows : List (List Int)} {f l len : Nat} (hl : l < 400) : ∀ x ∈ (matC rows).set f (.own l len), ¬ Ment x (inn f) := by
  intro x hx hm
  obtain ⟨j, hj⟩ := List.mem_iff_getElem?.1 hx
  rw [List.getElem?_set, matC_length] at hj
  split at hj
  · split at hj
    · injection hj with hj; subst hj
      generalize he : inn f = k at hm
      cases hm with
      | own => unfold inn at he; omega
    · cases hj
  · rename_i hne
    obtain ⟨_, rfl⟩ := matC_at hj
    generalize he : inn f = k at hm
    cases hm with
    | own => unfold inn at he; exact hne (by omega)

/-! All rows frozen. -/
/-- A row of ours in a slice's cells becomes immutable. -/
theorem Ghost.freezeV {lb j l n len : Nat} {cs : List AV} {cols : List Col} {g : Nat → List D} (hb : S.get (bk lb) = some (.blk (.appv cs))) (hj : cs[j]? = some (.own l len)) (hl : S.get (bk l) = some (.blk (.app n len cols))) (hne : l ≠ lb)
    (hg : ∀ i, i < len → cols.map (Col.at · i) = g i) : Ghost E S ((bk lb, .blk (.appv (cs.set j (.d (.rows n len g))))) :: St.del (bk l) S) := by
  rintro a w ⟨V, M, ha, hw⟩
  obtain ⟨M', hle, hden, ha', hw'⟩ := rep_freeze ha hw hl
  have hne' : bk l ≠ bk lb := fun e => hne (bk_inj e)
  have hb' : (St.del (bk l) S).get (bk lb) = some (.blk (.appv cs)) := by rw [St.get_del, if_neg hne']; exact hb
  refine ⟨V, M', ha'.blk _ _, hw'.reblk hb' ?_⟩
  have hblk : appvAt V M w lb cs := hw.blks lb _ hb
  show appvAt V M' w lb (cs.set j (.d (.rows n len g)))
  unfold appvAt at *
  cases hk : V.κ lb with
  | none => rw [hk] at hblk; simp only at hblk; subst hblk; simp at hj
  | some cap =>
    rw [hk] at hblk
    obtain ⟨h1, vs, t, h2, h3, h4⟩ := hblk
    refine ⟨by simpa using h1, vs, t, h2, h3, fun i x hx => ?_⟩
    rw [List.getElem?_set] at hx
    split at hx
    · rename_i hij
      subst hij
      split at hx
      · injection hx with hx
        subst hx
        obtain ⟨y, hy, hd⟩ := h4 j _ hj
        refine ⟨y, hy, ?_⟩
        have := hden y hd
        cases this with
        | d _ _ h => exact .d _ _ (denD_rowsLe h hg)
      · cases hx
    · obtain ⟨y, hy, hd⟩ := h4 i x hx
      exact ⟨y, hy, hd.mono hle fun _ _ => ⟨rfl, rfl⟩⟩
abbrev rowD (r : List Int) : D := .rows 1 r.length fun k => [.v (.int .i64 (r.getD k 0))]
def frz (rows : List (List Int)) (k : Nat) : List AV := (List.range rows.length).map fun i => if i < k then .d (rowD (rows.getD i [])) else .own (inn i) (rows.getD i []).length
def famFrom (rows : List (List Int)) (k : Nat) : St := ((List.range rows.length).filter fun i => decide (k ≤ i)).map fun i => (bk (inn i), rowB (rows.getD i []))
theorem frz_zero (rows : List (List Int)) : frz rows 0 = matC rows := by simp [frz, matC]
theorem frz_get {rows : List (List Int)} {k i : Nat} (hi : i < rows.length) : (frz rows k)[i]? = some (if i < k then .d (rowD (rows.getD i [])) else .own (inn i) (rows.getD i []).length) := by
  unfold frz; rw [List.getElem?_map, List.getElem?_range hi]; rfl
theorem frz_length (rows : List (List Int)) (k : Nat) : (frz rows k).length = rows.length := by simp [frz]
theorem frz_step {rows : List (List Int)} {k : Nat} : (frz rows k).set k (.d (rowD (rows.getD k []))) = frz rows (k + 1) := by
  apply List.ext_getElem?
  intro j
  rw [List.getElem?_set, frz_length]
  by_cases hj : j < rows.length
  · rw [frz_get hj, frz_get hj]
    by_cases hij : k = j
    · subst hij; rw [if_pos rfl, if_pos hj, if_pos (by omega)]
    · rw [if_neg hij]
      by_cases h2 : j < k
      · rw [if_pos h2, if_pos (by omega)]
      · rw [if_neg h2, if_neg (by omega)]
  · have h1 : ∀ q, (frz rows q)[j]? = none := fun q => List.getElem?_eq_none (by rw [frz_length]; omega)
    rw [h1, h1]
    split
    · rename_i e; rw [if_neg (by omega)]
    · rfl
theorem from_get {rows : List (List Int)} {k i : Nat} : (famFrom rows k).get (bk (inn i)) = if i < rows.length ∧ k ≤ i then some (rowB (rows.getD i [])) else none := by
  unfold famFrom; rw [mapGet]; simp
theorem from_only {rows : List (List Int)} {k n : Nat} {c : Cont} (h : (famFrom rows k).get n = some c) : ∃ i, i < rows.length ∧ k ≤ i ∧ n = bk (inn i) ∧ c = rowB (rows.getD i []) := by
  obtain ⟨i, hi, h1, h2⟩ := mapGet_only _ _ h
  simp at hi
  exact ⟨i, hi.1, hi.2, h1, h2⟩
theorem get_app (S T : St) (n : Nat) : St.get (S ++ T) n = match S.get n with | some c => some c | none => T.get n := by
  induction S with
  | nil => rfl
  | cons x r ih =>
    obtain ⟨m, c⟩ := x
    rw [List.cons_append, get_cons, get_cons, ih]
    by_cases h : m = n
    · rw [if_pos h, if_pos h]
    · rw [if_neg h, if_neg h]
/-- All rows of the family become immutable. -/
theorem Ghost.famFreeze {l : Nat} {rows : List (List Int)} {S' : St} (hl : l < 400) (hb : S.get (bk l) = some (.blk (.appv (matC rows)))) (hf : (fam rows).le S) (hle : S'.le S) (hn : ∀ i, S'.get (bk (inn i)) = none) :
    Ghost E S ((bk l, .blk (.appv (rows.map fun r => .d (rowD r)))) :: S') := by
  have hli : ∀ i, inn i ≠ l := fun i => by unfold inn; omega
  have hbi : ∀ i, bk (inn i) ≠ bk l := fun i e => hli i (bk_inj e)
  have key : ∀ k, k ≤ rows.length → Ghost E S (((bk l, .blk (.appv (frz rows k))) :: S') ++ famFrom rows k) := by
    intro k
    induction k with
    | zero =>
      intro _
      refine Ghost.weaken fun m c e => ?_
      rw [get_app, get_cons] at e
      by_cases hm : bk l = m
      · rw [if_pos hm] at e; simp only at e; rw [← hm, hb, ← frz_zero]; exact e
      · rw [if_neg hm] at e
        cases hs : S'.get m with
        | some d => rw [hs] at e; simp only at e; rw [← e]; exact hle _ _ hs
        | none =>
          rw [hs] at e; simp only at e
          obtain ⟨i, h1, _, rfl, rfl⟩ := from_only e
          exact hf _ _ (fam_get h1)
    | succ k ih =>
      intro hk
      refine (ih (by omega)).trans ?_
      have hg : St.get (((bk l, .blk (.appv (frz rows k))) :: S') ++ famFrom rows k) (bk (inn k)) = some (rowB (rows.getD k [])) := by
        rw [get_app, get_cons, if_neg (Ne.symm (hbi k)), hn k]
        show (famFrom rows k).get _ = _
        rw [from_get, if_pos ⟨by omega, Nat.le_refl _⟩]
      refine (Ghost.freezeV (lb := l) (j := k) (g := fun i => [.v (.int .i64 ((rows.getD k []).getD i 0))]) (by rw [get_app, get_cons, if_pos rfl]) (by rw [frz_get (by omega), if_neg (by omega)]) hg (hli k) (fun i hi => rfl)).trans (Ghost.weaken fun m c e => ?_)
      rw [frz_step, get_cons]
      rw [get_app, get_cons] at e
      by_cases hm : bk l = m
      · rw [if_pos hm] at e ⊢; exact e
      · rw [if_neg hm] at e ⊢
        rw [St.get_del, get_app, get_cons, if_neg hm]
        cases hs : S'.get m with
        | some d =>
          rw [hs] at e; simp only at e
          rw [if_neg (fun e2 => by rw [← e2, hn k] at hs; cases hs)]
          exact e
        | none =>
          rw [hs] at e; simp only at e
          obtain ⟨i, h1, h2, rfl, rfl⟩ := from_only e
          rw [if_neg (fun e2 => by have := inn_inj.1 e2; omega)]
          show (famFrom rows k).get _ = _
          rw [from_get, if_pos ⟨h1, by omega⟩]
  refine (key rows.length (Nat.le_refl _)).trans (Ghost.weaken fun m c e => ?_)
  have hfr : frz rows rows.length = rows.map fun r => .d (rowD r) := by
    apply List.ext_getElem?
    intro j
    by_cases hj : j < rows.length
    · rw [frz_get hj, if_pos hj, List.getElem?_map, List.getElem?_eq_getElem hj]
      simp [List.getD_eq_getElem?_getD, hj]
    · rw [List.getElem?_eq_none (by rw [frz_length]; omega), List.getElem?_eq_none (by simp; omega)]
  rw [hfr, get_app, e]
/-- Cells that are plain data. -/
theorem Ghost.fromAppv {l n : Nat} {xs : List D} (hb : S.get (bk l) = some (.blk (.appv (xs.map .d)))) (hn : xs.length = n) : Ghost E S ((bk l, .blk (.app 1 n [.ds xs])) :: S) := by
  refine (Ghost.reblk (B' := .app 1 n [.ds xs]) hb fun V M w h => ?_).trans (Ghost.weaken fun n c e => by rw [← cons_upd]; exact e)
  have h : appvAt V M w l (xs.map .d) := h
  unfold appvAt at h
  refine ⟨rfl, fun c hc => ?_, ?_⟩
  · simp only [List.mem_singleton] at hc; subst hc; exact hn
  · cases hk : V.κ l with
    | none =>
      rw [hk] at h
      simp only at h ⊢
      have : xs = [] := by simpa using h
      subst this; simpa using hn.symm
    | some cap =>
      rw [hk] at h
      obtain ⟨h4, vs, t, h5, h6, h7⟩ := h
      refine ⟨by simpa [hn] using h4, vs, t, h5, by simpa using h6, rfl, fun c hc => ?_, fun i j c hi hc => ?_⟩
      · simp only [List.mem_singleton] at hc; subst hc; exact hn
      · cases j with
        | succ j => simp at hc
        | zero =>
          simp only [List.getElem?_cons_zero, Option.some.injEq] at hc
          subst hc
          have hil : i < xs.length := by omega
          obtain ⟨v, hv, hd⟩ := h7 i (.d xs[i]) (by simp [hil])
          refine ⟨v, by simpa using hv, ?_⟩
          cases hd with
          | d _ _ h =>
            simp only [Col.at, List.getD_eq_getElem?_getD, List.getElem?_eq_getElem hil, Option.getD_some]
            exact h

end Go.Proofs.Ytcnikeonaklkoaa
