/- A slice of slices that a function owns: its cells hold own slices; the rows' blocks as a family of labels. No program in sight. -/
import Derived.Test.YtcnikeonaklkoaaRange
namespace Go.Proofs.Ytcnikeonaklkoaa
open Go
set_option linter.unusedVariables false
set_option linter.unusedSimpArgs false
variable {P : Program} {S : St} {ro : Ro} {ops : Array Oper} {E : Env}

/-- Nil slices (or other data) as cells that may come to hold slices of ours. -/
theorem Ghost.toAppv {l n : Nat} {xs : List D} (hb : S.get (bk l) = some (.blk (.app 1 n [.ds xs]))) (hn : xs.length = n) : Ghost E S ((bk l, .blk (.appv (xs.map .d))) :: S) := by
  refine (Ghost.reblk (B' := .appv (xs.map .d)) hb fun V M w h => ?_).trans (Ghost.weaken fun n c e => by rw [← cons_upd]; exact e)
  obtain ⟨_, _, h3⟩ := h
  show appvAt V M w l (xs.map .d)
  unfold appvAt
  cases hk : V.κ l with
  | none =>
    rw [hk] at h3
    simp only at h3 ⊢
    have : xs = [] := List.eq_nil_of_length_eq_zero (by omega)
    subst this; rfl
  | some cap =>
    rw [hk] at h3
    obtain ⟨h4, vs, t, h5, h6, _, _, h7⟩ := h3
    refine ⟨by simpa [hn] using h4, vs, t, h5, by simpa using h6, fun j x hx => ?_⟩
    simp only [List.getElem?_map, Option.map_eq_some_iff] at hx
    obtain ⟨z, hz, rfl⟩ := hx
    have hj : j < n := by have := (List.getElem?_eq_some_iff.1 hz).1; omega
    obtain ⟨v, hv, hd⟩ := h7 j 0 (.ds xs) hj rfl
    refine ⟨v, by simpa using hv, .d _ _ ?_⟩
    simp only [Col.at, List.getD_eq_getElem?_getD, hz, Option.getD_some] at hd
    exact hd

section
variable {x y : Operand} {t ty : TypeId} {pos : String} {af : Array Edge} {gd : Option (Nat × Bool)} {d : Option Nat} {c : Bool}
theorem Pure.loadRowV {l i m : Nat} {cs : List AV} {u : AV} (ht : tyOK P t false m = true) (e1 : Ev S c x (.locr l 1 i 0)) (hb : S.get (bk l) = some (.blk (.appv cs))) (hu : c = true → cs[i]? = some u) : Pure P S [l] ⟨d, .load t x, ty, pos, af, gd⟩ c u := by
  refine ⟨(fun _ h => nomatch h), fun E V M a w h hc => ?_⟩
  have h1 := h.opd x (by simp [Op.operands]) _ e1
  have hu := hu hc
  have hblk : appvAt V M w l cs := h.blk l (by simp) _ hb
  unfold appvAt at hblk
  generalize he : a.eval x = v at h1
  generalize a.eval = ρ at *
  cases h1 with
  | locr _ _ _ _ =>
    cases hk : V.κ l with
    | none => rw [hk] at hblk; simp only at hblk; subst hblk; simp at hu
    | some cap =>
      rw [hk] at hblk
      obtain ⟨_, vs, tt, hh, _, hd⟩ := hblk
      obtain ⟨v', hv', hd'⟩ := hd i u hu
      refine ⟨v', ?_, hd'⟩
      have hc : w.cell? ⟨V.ρ l, i * 1 + 0, none⟩ = some v' := by simp [World.cell?, hh, hv']
      simp only [execOp, Instr.loadAt, Sem.run_bind, he, Instr.sureAddr, Sem.run_pure, Result.andThen, run_loadVar1 ht hc]

theorem Trace.storeRowV {S0 S' : St} {r : List Oper} {L : List Ax} {l i : Nat} {cs cs' : List AV} {u u' : AV} (ht : tyOK P t false 1 = true) (e1 : Ev S0 true x (.locr l 1 i 0)) (e2 : Ev S0 true y u) (hb : S0.get (bk l) = some (.blk (.appv cs)))
    (hu : u.cellsL = some [u']) (h1 : u'.oneB = true) (hi : i < cs.length) (hcs : cs.set i u' = cs') (h : Trace P ro ops r ((bk l, (.blk (.appv cs'))) :: S0) L S') :
    Trace P ro ops (⟨none, .store t x y, ty, pos, af, none⟩ :: r) S0 (⟨opNames ⟨none, .store t x y, ty, pos, af, none⟩ ++ [bk l], S0, [(bk l, some (.blk (.appv cs')))], []⟩ :: L) S' := by
  subst hcs
  refine Trace.store (axOp_store rfl rfl rfl hb fun E V M a w hg => ?_) h
  have hblk : appvAt V M w l cs := hg.blk l (by simp) _ hb
  have hx := hg.opd x (by simp [Op.operands]) _ e1
  have hy := cells_of (hg.opd y (by simp [Op.operands]) _ e2) hu
  have hsz : (a.eval y).cells.size = 1 := by have := hy.len; simp at this; omega
  have hone : ∀ u ∈ (a.eval y).cells.toList, u.oneCell' = true := hy.one fun x hx => by
    simp at hx; subst hx; exact h1
  unfold appvAt at hblk
  generalize he : a.eval x = v at hx
  cases hx with
  | locr _ _ _ _ =>
    cases hk : V.κ l with
    | none => rw [hk] at hblk; simp only at hblk; subst hblk; simp at hi
    | some cap =>
      rw [hk] at hblk
      obtain ⟨hcap, vs, tt, hh, hs, hd⟩ := hblk
      refine ⟨by simp, _, tt, vs, (spliceL vs.toList (i * 1 + 0) (a.eval y).cells.toList).toArray, rfl, hh, run_storeVar ht hsz hh (by omega) hone, fun w' hw' => ?_⟩
      show appvAt V M w' l (cs.set i u')
      unfold appvAt
      rw [hk]
      have hlen : i * 1 + 0 + (a.eval y).cells.toList.length ≤ vs.toList.length := by simp [hsz]; omega
      refine ⟨by simpa using hcap, _, tt, hw', by rw [List.size_toArray, spliceL_length hlen]; simpa using hs, fun j x hx => ?_⟩
      have hsp := spliceL_get hlen j
      simp only [List.getElem?_toArray, hsp]
      rw [List.getElem?_set] at hx
      by_cases hij : i = j
      · subst hij
        rw [if_pos rfl, if_pos hi] at hx
        injection hx with hx; subst hx
        have h0 : (a.eval y).cells.toList[0]? = some ((a.eval y).cells.toList[0]'(by simp [hsz])) := List.getElem?_eq_getElem (by simp [hsz])
        refine ⟨(a.eval y).cells.toList[0]'(by simp [hsz]), ?_, hy.at' 0 _ _ rfl h0⟩
        rw [if_pos (by simp [hsz])]
        simp
      · rw [if_neg hij] at hx
        obtain ⟨v, hv, hdv⟩ := hd j x hx
        refine ⟨v, ?_, hdv⟩
        rw [if_neg (by simp [hsz]; omega)]
        simpa using hv
end

/-- An own slice in a cell, and its block, under another label. -/
theorem Ghost.alias {L i a b len n : Nat} {cols : List Col} {cs : List AV} (hL : S.get (bk L) = some (.blk (.appv cs))) (hi : cs[i]? = some (.own a len)) (ha : S.get (bk a) = some (.blk (.app n len cols))) (haL : a ≠ L) (hb : S.get (bk b) = none)
    (hbf : ∀ m c, S.get m = some c → ¬ CMent c b) (hbk : b ∉ E.keep) {T : St}
    (hT : ∀ m c, T.get m = some c → (m = bk b ∧ c = .blk (.app n len cols)) ∨ (m = bk L ∧ c = .blk (.appv (cs.set i (.own b len)))) ∨ (m ≠ bk b ∧ m ≠ bk L ∧ m ≠ bk a ∧ S.get m = some c)) : Ghost E S T := by
  rintro ac w ⟨V, M, hA, hW⟩
  have hbL : b ≠ L := fun e => by subst e; rw [hL] at hb; cases hb
  have hVo : ∀ l, l ≠ b → (V.set b (V.ρ a) (V.κ a)).ρ l = V.ρ l ∧ (V.set b (V.ρ a) (V.κ a)).κ l = V.κ l := fun l hl => V.set_ne _ _ hl
  have hbk' : ∀ l m : Nat, bk l = bk m → l = m := fun l m e => by unfold bk at e; omega
  have hH : ∀ l, HasB (V.set b (V.ρ a) (V.κ a)) T l → ∃ l0, HasB V S l0 ∧ (V.set b (V.ρ a) (V.κ a)).ρ l = V.ρ l0 ∧ (l = b → l0 = a) ∧ (l ≠ b → l0 = l ∧ l ≠ a) := by
    rintro l ⟨⟨B, hB⟩, hk⟩
    rcases hT _ _ hB with ⟨h1, h2⟩ | ⟨h1, h2⟩ | ⟨h1, h2, h3, h4⟩
    · have := hbk' _ _ h1; subst this
      refine ⟨a, ⟨⟨_, ha⟩, by simpa using hk⟩, by simp, fun _ => rfl, fun h => absurd rfl h⟩
    · have := hbk' _ _ h1; subst this
      have := hVo l (Ne.symm hbL)
      exact ⟨l, ⟨⟨_, hL⟩, by rw [← this.2]; exact hk⟩, this.1, fun h => absurd h.symm hbL, fun _ => ⟨rfl, Ne.symm haL⟩⟩
    · have hlb : l ≠ b := fun e => h1 (by rw [e])
      have := hVo l hlb
      exact ⟨l, ⟨⟨_, h4⟩, by rw [← this.2]; exact hk⟩, this.1, fun h => absurd h hlb, fun _ => ⟨rfl, fun e => h3 (by rw [e])⟩⟩
  have hden : ∀ {x : AV} {v : Value}, Den V M x v → ¬ Ment x b → Den (V.set b (V.ρ a) (V.κ a)) M x v := fun h hn => h.relab _ _ hn
  refine ⟨V.set b (V.ρ a) (V.κ a), M, ⟨fun t x e => ?_, hA.size, hA.defers⟩, ?_⟩
  · rcases hT _ _ e with ⟨h1, _⟩ | ⟨h1, _⟩ | ⟨_, _, _, h4⟩
    · exact absurd h1 (sl_ne_bk t b)
    · exact absurd h1 (sl_ne_bk t L)
    · obtain ⟨v, hv, hd⟩ := hA.slots t x h4
      exact ⟨v, hv, hden hd fun hm => hbf _ _ h4 hm⟩
  · exact
    { blks := fun l B e => by
        rcases hT _ _ e with ⟨h1, h2⟩ | ⟨h1, h2⟩ | ⟨h1, h2, h3, h4⟩
        · have := hbk' _ _ h1; subst this
          injection h2 with h2; subst h2
          obtain ⟨g1, g2, g3⟩ := hW.blks a _ ha
          refine ⟨g1, g2, ?_⟩
          simp only [Vals.set_κ, Vals.set_ρ]
          exact g3
        · have := hbk' _ _ h1; subst this
          injection h2 with h2; subst h2
          have hv := hVo l (Ne.symm hbL)
          have hblk : appvAt V M w l cs := hW.blks l _ hL
          show appvAt _ M w l (cs.set i (.own b len))
          unfold appvAt at *
          rw [hv.1, hv.2]
          cases hk : V.κ l with
          | none => rw [hk] at hblk; simp only at hblk; subst hblk; simp at hi
          | some cap =>
            rw [hk] at hblk
            obtain ⟨g1, vs, t, g2, g3, g4⟩ := hblk
            refine ⟨by simpa using g1, vs, t, g2, g3, fun j x hx => ?_⟩
            rw [List.getElem?_set] at hx
            by_cases hij : i = j
            · subst hij
              have hil : i < cs.length := (List.getElem?_eq_some_iff.1 hi).1
              rw [if_pos rfl, if_pos hil] at hx
              injection hx with hx; subst hx
              obtain ⟨v, hv', hd⟩ := g4 i _ hi
              refine ⟨v, hv', ?_⟩
              cases hd with
              | own _ _ cap' hk' hc =>
                have h9 := Den.own (V := V.set b (V.ρ a) (V.κ a)) (M := M) b len cap' (by rw [Vals.set_κ]; exact hk') hc
                rwa [Vals.set_ρ] at h9
              | ownNil _ hk' => exact Den.ownNil (V := V.set b (V.ρ a) (V.κ a)) b (by rw [Vals.set_κ]; exact hk')
            · rw [if_neg hij] at hx
              obtain ⟨v, hv', hd⟩ := g4 j x hx
              exact ⟨v, hv', hden hd fun hm => hbf _ _ hL (.appv cs x b (List.mem_of_getElem? hx) hm)⟩
        · have hlb : l ≠ b := fun e => h1 (by rw [e])
          exact (hW.blks l B h4).relab _ _ hlb (fun hm => hbf _ _ h4 hm) fun _ => rfl
      inj := fun l l' h1 h2 hne => by
        obtain ⟨m, g1, g2, g3, g4⟩ := hH l h1
        obtain ⟨m', k1, k2, k3, k4⟩ := hH l' h2
        rw [g2, k2]
        refine hW.inj m m' g1 k1 fun e => ?_
        by_cases hl : l = b
        · by_cases hl' : l' = b
          · exact hne (hl.trans hl'.symm)
          · exact (k4 hl').2 ((k4 hl').1.symm.trans (e.symm.trans (g3 hl)))
        · by_cases hl' : l' = b
          · exact (g4 hl).2 ((g4 hl).1.symm.trans (e.trans (k3 hl')))
          · exact hne ((g4 hl).1.symm.trans (e.trans (k4 hl').1))
      sep := fun l h1 o => by obtain ⟨m, g1, g2, _⟩ := hH l h1; rw [g2]; exact hW.sep m g1 o
      fresh := fun l h1 => by obtain ⟨m, g1, g2, _⟩ := hH l h1; rw [g2]; exact hW.fresh m g1
      bd := fun l h1 => by obtain ⟨m, g1, g2, _⟩ := hH l h1; rw [g2]; exact hW.bd m g1
      mem := hW.mem, mle := hW.mle, mnew := hW.mnew
      keep := fun l hl => by
        have := hVo l (fun e => hbk (e ▸ hl))
        rw [this.1, this.2]; exact hW.keep l hl
      frame := hW.frame }

end Go.Proofs.Ytcnikeonaklkoaa
