/- Slices inside cells; bytes as strings and back. No program in sight. -/
import Derived.Test.YtcnikeonaklkoaaCut
import Derived.Laws.BytesArg
import Derived.Lib.ConvBytes
namespace Go.Proofs.Ytcnikeonaklkoaa
open Go
set_option linter.unusedVariables false
set_option linter.unusedSimpArgs false
variable {P : Program} {S : St} {ro : Ro} {ops : Array Oper} {E : Env}

/-- One block's shape, read otherwise, where this world allows it. -/
theorem RepW.reblk {V : Vals} {M : Mem} {w : World} {l : Nat} {B B' : Blk} (hw : RepW E S V M w) (hb : S.get (bk l) = some (.blk B)) (h : BlkAt V M w l B') : RepW E ((bk l, .blk B') :: S) V M w := by
  have hg : ∀ m C, St.get ((bk l, .blk B') :: S) (bk m) = some (.blk C) → (m = l ∧ C = B') ∨ S.get (bk m) = some (.blk C) := fun m C e => by
    rw [get_cons] at e
    by_cases hm : bk l = bk m
    · rw [if_pos hm] at e; injection e with e; injection e with e; left; exact ⟨by unfold bk at hm; omega, e.symm⟩
    · rw [if_neg hm] at e; exact .inr e
  have hh : ∀ m, HasB V ((bk l, .blk B') :: S) m → HasB V S m := fun m ⟨⟨C, e⟩, k⟩ => by
    rcases hg m C e with ⟨rfl, _⟩ | e
    · exact ⟨⟨B, hb⟩, k⟩
    · exact ⟨⟨C, e⟩, k⟩
  exact { blks := fun m C e => by
            rcases hg m C e with ⟨rfl, rfl⟩ | e
            · exact h
            · exact hw.blks m C e
          inj := fun m k a b => hw.inj m k (hh m a) (hh k b), sep := fun m a => hw.sep m (hh m a), fresh := fun m a => hw.fresh m (hh m a), bd := fun m a => hw.bd m (hh m a), mem := hw.mem, mle := hw.mle, mnew := hw.mnew, keep := hw.keep, frame := hw.frame }
theorem RepA.blk {V : Vals} {M : Mem} {a : Act} (h : RepA E S V M a) (l : Nat) (B : Cont) : RepA E ((bk l, B) :: S) V M a :=
  ⟨fun t x e => by rw [get_cons, if_neg (Ne.symm (sl_ne_bk t l))] at e; exact h.slots t x e, h.size, h.defers⟩

/-- A label without a block (a nil slice). -/
theorem rep_nilLabel {V : Vals} {M : Mem} {a : Act} {w : World} (ha : RepA E S V M a) (hw : RepW E S V M w) {l n : Nat} {cs : List Col} (hf : freshB ⟨[], S, [(bk l, none)], [l]⟩ S = true) (hk : l ∉ E.keep) (hn : cs.length = n) (hc : ∀ c ∈ cs, c.len = 0) :
    ∃ V' : Vals, V'.κ l = none ∧ RepA E ((bk l, .blk (.app n 0 cs)) :: S) V' M a ∧ RepW E ((bk l, .blk (.app n 0 cs)) :: S) V' M w := by
  have hfr := fresh_of hf
  have hm : ∀ m c, S.get m = some c → m ≠ bk l → ¬ CMent c l := fun m c e hne => hfr l (by simp) m c e (by simp [Ax.names]; exact hne)
  refine ⟨V.set l 0 none, by simp, ⟨fun t x e => ?_, ha.size, ha.defers⟩, ?_⟩
  · rw [get_cons, if_neg (Ne.symm (sl_ne_bk t l))] at e
    obtain ⟨v, hv, hd⟩ := ha.slots t x e
    exact ⟨v, hv, hd.relab 0 none (hm _ _ e (sl_ne_bk t l))⟩
  · have hg : ∀ m C, St.get ((bk l, .blk (.app n 0 cs)) :: S) (bk m) = some (.blk C) → (m = l ∧ C = .app n 0 cs) ∨ (m ≠ l ∧ S.get (bk m) = some (.blk C)) := fun m C e => by
      rw [get_cons] at e
      by_cases hml : m = l
      · subst hml; rw [if_pos rfl] at e; injection e with e; injection e with e; exact .inl ⟨rfl, e.symm⟩
      · rw [if_neg (fun e => hml (by unfold bk at e; omega))] at e; exact .inr ⟨hml, e⟩
    have hh : ∀ m, HasB (V.set l 0 none) ((bk l, .blk (.app n 0 cs)) :: S) m → m ≠ l ∧ HasB V S m ∧ (V.set l 0 none).ρ m = V.ρ m := fun m ⟨⟨C, e⟩, k⟩ => by
      rcases hg m C e with ⟨rfl, _⟩ | ⟨hne, e⟩
      · simp at k
      · obtain ⟨e1, e2⟩ := V.set_ne 0 none hne
        exact ⟨hne, ⟨⟨C, e⟩, by rwa [e2] at k⟩, e1⟩
    exact { blks := fun m C e => by
              rcases hg m C e with ⟨rfl, rfl⟩ | ⟨hne, e⟩
              · exact ⟨hn, hc, by simp⟩
              · exact (hw.blks m C e).relab 0 none hne (hm _ _ e (fun e => hne (by unfold bk at e; omega))) (fun _ => rfl)
            inj := fun m k a b hne => by
              obtain ⟨_, h1, e1⟩ := hh m a
              obtain ⟨_, h2, e2⟩ := hh k b
              rw [e1, e2]; exact hw.inj m k h1 h2 hne
            sep := fun m a => by obtain ⟨_, h1, e1⟩ := hh m a; rw [e1]; exact hw.sep m h1
            fresh := fun m a => by obtain ⟨_, h1, e1⟩ := hh m a; rw [e1]; exact hw.fresh m h1
            bd := fun m a => by obtain ⟨_, h1, e1⟩ := hh m a; rw [e1]; exact hw.bd m h1
            mem := hw.mem, mle := hw.mle, mnew := hw.mnew
            keep := fun m h => by obtain ⟨e1, e2⟩ := V.set_ne 0 none (fun e : m = l => hk (e ▸ h)); rw [e1, e2]; exact hw.keep m h
            frame := hw.frame }

/-- A nil slice in a cell, as one that the function owns. -/
theorem Ghost.cellNil {lb j l n : Nat} {cs cs' : List AV} {cols : List Col} (hb : S.get (bk lb) = some (.blk (.cells cs))) (hj : cs[j]? = some nilS) (hf : freshB ⟨[], S, [(bk l, none)], [l]⟩ S = true) (hne : (Nat.beq lb l) = false) (hk : l ∉ E.keep) (hn : cols.length = n) (hc : ∀ c ∈ cols, c.len = 0)
    (hcs : cs.set j (.own l 0) = cs') : Ghost E S ((bk lb, .blk (.cells cs')) :: (bk l, .blk (.app n 0 cols)) :: S) := by
  rintro a w ⟨V, M, ha, hw⟩
  obtain ⟨V', hκ, ha', hw'⟩ := rep_nilLabel (cs := cols) ha hw hf hk hn hc
  have hne' : bk l ≠ bk lb := fun e => by
    have : lb = l := by unfold bk at e; omega
    rw [this] at hne; simp [nbeq] at hne
  have hb' : St.get ((bk l, .blk (.app n 0 cols)) :: S) (bk lb) = some (.blk (.cells cs)) := by rw [get_cons, if_neg hne']; exact hb
  refine ⟨V', M, ha'.blk _ _, hw'.reblk hb' ?_⟩
  obtain ⟨h1, vs, t, h2, h3, h4⟩ := hw'.blks lb _ hb'
  refine ⟨h1, vs, t, h2, by rw [← hcs]; simpa using h3, fun i x y hx hy => ?_⟩
  rw [← hcs, List.getElem?_set] at hx
  split at hx
  · rename_i hij
    subst hij
    split at hx
    · injection hx with hx
      subst hx
      have := den_v (h4 j nilS y hj hy)
      subst this
      exact .ownNil l hκ
    · cases hx
  · exact h4 i x y hx hy

/-- A block that a slice owns becomes immutable. -/
theorem rep_freeze {V : Vals} {M : Mem} {a : Act} {w : World} (ha : RepA E S V M a) (hw : RepW E S V M w) {l n len : Nat} {cs : List Col} (hb : S.get (bk l) = some (.blk (.app n len cs))) :
    ∃ M' : Mem, M.le M' ∧ (∀ v, Den V M (.own l len) v → Den V M' (.d (rowsD n len cs)) v) ∧ RepA E (St.del (bk l) S) V M' a ∧ RepW E (St.del (bk l) S) V M' w := by
  have hgb : ∀ m B, (St.del (bk l) S).get (bk m) = some (.blk B) → m ≠ l ∧ S.get (bk m) = some (.blk B) := by
    intro m B h
    rw [St.get_del] at h
    by_cases hm : bk l = bk m
    · rw [if_pos hm] at h; cases h
    · rw [if_neg hm] at h; exact ⟨fun e => hm (by rw [e]), h⟩
  have hblk := hw.blks l _ hb
  obtain ⟨b1, b2, b3⟩ := hblk
  obtain ⟨M', hle, hM', hden⟩ : ∃ M' : Mem, M.le M' ∧ (∀ b o u, M' b o = some u → M b o = some u ∨ (b = V.ρ l ∧ V.κ l ≠ none ∧ w.cell? ⟨b, o, none⟩ = some u)) ∧ (∀ v, Den V M (.own l len) v → Den V M' (.d (rowsD n len cs)) v) := by
    cases hk : V.κ l with
    | none =>
      refine ⟨M, Mem.le_refl M, fun b o u h => .inl h, fun v hd => ?_⟩
      cases hd with
      | own _ _ cap hk' _ => rw [hk] at hk'; cases hk'
      | ownNil _ _ => exact .d _ _ (.emp _ _ _ _)
    | some cap0 =>
      rw [hk] at b3
      obtain ⟨hcap0, vs, tt, hh, hsz, hr⟩ := b3
      have hM0 : ∀ o, M (V.ρ l) o = none := hw.sep l ⟨⟨_, hb⟩, by rw [hk]; simp⟩
      have hle : M.le (fun b o => if b = V.ρ l then vs[o]? else M b o) := fun b o u h => by
        by_cases e : b = V.ρ l
        · subst e; rw [hM0 o] at h; cases h
        · simp only [if_neg e]; exact h
      refine ⟨fun b o => if b = V.ρ l then vs[o]? else M b o, hle, fun b o u h => ?_, fun v hd => ?_⟩
      · by_cases e : b = V.ρ l
        · subst e
          simp only [if_true] at h
          right
          exact ⟨rfl, by simp, by simp [World.cell?, hh, h]⟩
        · simp only [if_neg e] at h; exact .inl h
      · cases hd with
        | ownNil _ hk' => rw [hk] at hk'; cases hk'
        | own _ _ cap hk' hc =>
          refine .d _ _ (denD_new (M := M) hle hr hc fun k u h => by simpa using h)
  refine ⟨M', hle, hden, ⟨fun s x hx => ?_, ha.size, ha.defers⟩, ?_⟩
  · rw [St.get_del, if_neg (Ne.symm (sl_ne_bk s l))] at hx
    obtain ⟨u, hu, hdu⟩ := ha.slots s x hx
    exact ⟨u, hu, hdu.mono hle fun _ _ => ⟨rfl, rfl⟩⟩
  · have hh : ∀ m, HasB V (St.del (bk l) S) m → m ≠ l ∧ HasB V S m := fun m ⟨⟨B, e⟩, k⟩ => ⟨(hgb m B e).1, ⟨B, (hgb m B e).2⟩, k⟩
    have hne : ∀ m, HasB V S m → m ≠ l → V.κ l ≠ none → V.ρ m ≠ V.ρ l := fun m hm hml hk => hw.inj m l hm ⟨⟨_, hb⟩, hk⟩ hml
    exact { blks := fun m B e => (hw.blks m B (hgb m B e).2).memMono hle
            inj := fun m k hm hk' => hw.inj m k (hh m hm).2 (hh k hk').2
            sep := fun m hm o => by
              obtain ⟨h1, h2⟩ := hh m hm
              cases hc : M' (V.ρ m) o with
              | none => rfl
              | some u =>
                rcases hM' _ _ _ hc with h | ⟨h, hk, _⟩
                · rw [hw.sep m h2 o] at h; cases h
                · exact absurd h (hne m h2 h1 hk)
            fresh := fun m hm => hw.fresh m (hh m hm).2
            bd := fun m hm => hw.bd m (hh m hm).2
            mem := fun b o u h => by
              rcases hM' b o u h with h | ⟨_, _, h⟩
              · exact hw.mem b o u h
              · exact h
            mle := Mem.le_trans hw.mle hle
            mnew := fun b o h => by
              cases hc : M' b o with
              | none => exact absurd hc h
              | some u =>
                rcases hM' b o u hc with h | ⟨h, hk, _⟩
                · exact hw.mnew b o (by rw [h]; simp)
                · rw [h]
                  rcases hw.fresh l ⟨⟨_, hb⟩, hk⟩ with h | h
                  · exact .inr (.inl h)
                  · exact .inr (.inr h)
            keep := hw.keep, frame := hw.frame }

/-- Rows count up to their length. -/
theorem denD_rowsLe {M : Mem} {n len : Nat} {g g' : Nat → List D} {v : Value} (h : DenD M (.rows n len g) v) (hg : ∀ i, i < len → g i = g' i) : DenD M (.rows n len g') v := by
  cases h with
  | emp => exact .emp _ _ _ _
  | rows _ _ _ b o cap hc hl c hm h => exact .rows _ _ _ b o cap hc (fun i hi => by rw [← hg i hi]; exact hl i hi) c hm (fun i j x hi hx => h i j x hi (by rw [hg i hi]; exact hx))

/-- A slice in a cell that the function owns becomes immutable data. -/
theorem Ghost.cellFreeze {lb j l n len : Nat} {cs cs' : List AV} {cols : List Col} {g : Nat → List D} (hb : S.get (bk lb) = some (.blk (.cells cs))) (hj : cs[j]? = some (.own l len)) (hl : S.get (bk l) = some (.blk (.app n len cols))) (hne : (Nat.beq lb l) = false)
    (hg : ∀ i, i < len → cols.map (Col.at · i) = g i) (hcs : cs.set j (.d (.rows n len g)) = cs') : Ghost E S ((bk lb, .blk (.cells cs')) :: St.del (bk l) S) := by
  rintro a w ⟨V, M, ha, hw⟩
  obtain ⟨M', hle, hden, ha', hw'⟩ := rep_freeze ha hw hl
  have hne' : bk l ≠ bk lb := fun e => by
    have : lb = l := by unfold bk at e; omega
    rw [this] at hne; simp [nbeq] at hne
  have hb' : (St.del (bk l) S).get (bk lb) = some (.blk (.cells cs)) := by rw [St.get_del, if_neg hne']; exact hb
  refine ⟨V, M', ha'.blk _ _, hw'.reblk hb' ?_⟩
  obtain ⟨h1, vs, t, h2, h3, h4⟩ := hw.blks lb _ hb
  refine ⟨h1, vs, t, h2, by rw [← hcs]; simpa using h3, fun i x y hx hy => ?_⟩
  rw [← hcs, List.getElem?_set] at hx
  split at hx
  · rename_i hij
    subst hij
    split at hx
    · injection hx with hx
      subst hx
      have := hden y (h4 j _ y hj hy)
      cases this with
      | d _ _ h => exact .d _ _ (denD_rowsLe h hg)
    · cases hx
  · exact (h4 i x y hx hy).mono hle fun _ _ => ⟨rfl, rfl⟩
/-- The same of a slot. -/
theorem Ghost.freezeAs {t l n len : Nat} {cols : List Col} {g : Nat → List D} (hs : S.get (sl t) = some (.av (.own l len))) (hl : S.get (bk l) = some (.blk (.app n len cols)))
    (hg : ∀ i, i < len → cols.map (Col.at · i) = g i) : Ghost E S ((sl t, .av (.d (.rows n len g))) :: St.del (bk l) S) := by
  refine (Ghost.freeze' hs hl).trans ?_
  refine (Ghost.slot (t := t) (x := .d (rowsD n len cols)) (y := .d (.rows n len g)) (by rw [get_cons, if_pos rfl]) fun V M v h => ?_).trans (Ghost.weaken fun m c e => ?_)
  · cases h with
    | d _ _ h => exact .d _ _ (denD_rowsLe h hg)
  · rw [get_cons] at e ⊢
    by_cases hm : sl t = m
    · rw [if_pos hm] at e ⊢; exact e
    · rw [if_neg hm] at e ⊢; rw [get_cons, if_neg hm]; exact e

/-- Plain data of a block, a nil slice among them seen as rows. -/
theorem Ghost.dataLe {l : Nat} {ds ds' : List D} (hb : S.get (bk l) = some (.blk (.data ds))) (h : DLes ds ds') : Ghost E S ((bk l, .blk (.data ds')) :: S) := by
  rintro a w ⟨V, M, ha, hw⟩
  refine ⟨V, M, ha.blk _ _, hw.reblk hb ?_⟩
  obtain ⟨h1, vs, t, h2, h3, h4⟩ := hw.blks l _ hb
  obtain ⟨hl, hat⟩ := h.at'
  refine ⟨h1, vs, t, h2, by simp at h3 ⊢; omega, fun j x y hx hy => ?_⟩
  simp only [List.getElem?_map, Option.map_eq_some_iff] at hx
  obtain ⟨x', hx', rfl⟩ := hx
  refine .d _ _ (hat j x' y M hx' fun z hz => ?_)
  have := h4 j (.d z) y (by simp [hz]) hy
  cases this with | d _ _ h => exact h

/-! Two labels change their names. -/
def keySwp (a b n : Nat) : Nat := bif Nat.beq (n % 2) 0 then n else bk (trn a b (n / 2))
def St.swpA (a b : Nat) : St → St
  | [] => []
  | (n, c) :: r => (keySwp a b n, c.swp a b) :: St.swpA a b r
theorem keySwp_inv (a b n : Nat) : keySwp a b (keySwp a b n) = n := by
  unfold keySwp
  simp only [nbeq]
  by_cases h : n % 2 = 0
  · simp [h]
  · have e : bk (trn a b (n / 2)) / 2 = trn a b (n / 2) := by unfold bk; omega
    have e2 : bk (trn a b (n / 2)) % 2 = 1 := by unfold bk; omega
    simp only [h, decide_false, cond_false, e2, e, trn_trn]
    unfold bk
    simp
    omega
theorem get_swpA (a b : Nat) : ∀ (S : St) (n : Nat), (S.swpA a b).get n = (S.get (keySwp a b n)).map (Cont.swp a b)
  | [], n => rfl
  | (m, c) :: r, n => by
    simp only [St.swpA]
    rw [get_cons, get_cons, get_swpA a b r n]
    by_cases h : keySwp a b m = n
    · rw [if_pos h, if_pos (by rw [← h, keySwp_inv])]; rfl
    · rw [if_neg h, if_neg (fun e => h (by rw [e, keySwp_inv]))]
theorem keySwp_sl (a b t : Nat) : keySwp a b (sl t) = sl t := by
  unfold keySwp sl
  simp [nbeq]
theorem keySwp_bk (a b l : Nat) : keySwp a b (bk l) = bk (trn a b l) := by
  unfold keySwp
  have : bk l % 2 = 1 := by unfold bk; omega
  have e : bk l / 2 = l := by unfold bk; omega
  simp [nbeq, this, e]
theorem Ghost.swap (a b : Nat) {T : St} (ha : a ∉ E.keep) (hb : b ∉ E.keep) (hT : S.swpA a b = T) : Ghost E S T := by
  subst hT
  rintro ac w ⟨V, M, hA, h⟩
  have hH : ∀ l, HasB (V.swp a b) (S.swpA a b) l → HasB V S (trn a b l) := by
    rintro l ⟨⟨B, e⟩, k⟩
    rw [get_swpA, keySwp_bk, Option.map_eq_some_iff] at e
    obtain ⟨c, hc, e⟩ := e
    cases c with
    | av x => cases e
    | blk B' => exact ⟨⟨B', hc⟩, k⟩
  refine ⟨V.swp a b, M, ⟨fun t x e => ?_, hA.size, hA.defers⟩, ?_⟩
  · rw [get_swpA, keySwp_sl, Option.map_eq_some_iff] at e
    obtain ⟨c, hc, e⟩ := e
    cases c with
    | blk B => cases e
    | av y =>
      obtain ⟨v, hv, hd⟩ := hA.slots t y hc
      simp only [Cont.swp, Cont.av.injEq] at e
      subst e
      exact ⟨v, hv, hd.swp a b⟩
  · exact
    { blks := fun l B e => by
        rw [get_swpA, keySwp_bk, Option.map_eq_some_iff] at e
        obtain ⟨c, hc, e⟩ := e
        cases c with
        | av x => cases e
        | blk B' =>
          have := (h.blks _ _ hc).swp a b
          rw [trn_trn] at this
          simp only [Cont.swp, Cont.blk.injEq] at e
          rw [← e]; exact this
      inj := fun l l' h1 h2 hne => h.inj _ _ (hH l h1) (hH l' h2) (fun e => hne ((trn_inj a b _ _).1 e))
      sep := fun l h1 => h.sep _ (hH l h1)
      fresh := fun l h1 => h.fresh _ (hH l h1)
      bd := fun l h1 => h.bd _ (hH l h1)
      mem := h.mem, mle := h.mle, mnew := h.mnew
      keep := fun l hl => by
        have hla : l ≠ a := fun e => ha (e ▸ hl)
        have hlb : l ≠ b := fun e => hb (e ▸ hl)
        have : trn a b l = l := by simp [trn, nbeq, hla, hlb]
        have := h.keep l hl
        simp [Vals.swp, *]
      frame := h.frame }

/-! Bytes as a string. -/
def byteSl (P : Program) (t : TypeId) : Bool := match P.underlying t with
  | some (.slice e) => (match P.underlying e with | some (.int .u8) => true | _ => false) && (match P.info? e with | some i => Nat.beq i.size 1 && Nat.beq i.bytes 1 | none => false)
  | _ => false
theorem byteSl_of {t : TypeId} (h : byteSl P t = true) : ∃ e i, P.underlying t = some (.slice e) ∧ P.underlying e = some (.int .u8) ∧ P.info? e = some i ∧ i.size = 1 ∧ i.bytes = 1 := by
  unfold byteSl at h
  split at h
  · rename_i e he
    simp only [Bool.and_eq_true] at h
    obtain ⟨h1, h2⟩ := h
    split at h1
    · rename_i hu
      split at h2
      · rename_i i hi
        simp only [nbeq, Bool.and_eq_true, decide_eq_true_eq] at h2
        exact ⟨e, i, he, hu, hi, h2.1, h2.2⟩
      · cases h2
    · cases h1
  · cases h
/-- A string out of numbers. -/
def strOf (l : List Int) : ByteArray := ⟨(l.map fun x => UInt8.ofNat x.toNat).toArray⟩
theorem strOf_eq (l : List Int) : strOfNums l = strOf l := by
  simp [strOfNums, strOf]
theorem run_bytesToStr {dst src : TypeId} (hs : byteSl P src = true) (hd : P.underlying dst = some .string) {w : World} {b o len cap : Nat} {xs : List Int} (hl : xs.length = len) (hc : ∀ i, i < len → w.cell? ⟨b, o + i, none⟩ = some (.int .u8 (xs.getD i 0))) :
    (convert src dst (.slice (some ⟨b, o, none⟩) len cap)).run P w = .ok (.string (strOf xs)) w := by
  obtain ⟨e, i, h1, h2, _⟩ := byteSl_of hs
  rw [← strOf_eq]
  exact run_convert_bytes_arg w src e h1 h2 b o len cap xs hl hc dst hd
theorem run_bytesToStr0 {dst src : TypeId} (hs : byteSl P src = true) (hd : P.underlying dst = some .string) {w : World} {a : Option Addr} {cap : Nat} :
    (convert src dst (.slice a 0 cap)).run P w = .ok (.string (strOf [])) w := by
  obtain ⟨e, i, h1, h2, _⟩ := byteSl_of hs
  cases a with
  | none => rw [run_convert_bytes_nil w src e h1 h2 0 cap dst hd]; rfl
  | some a =>
    rw [run_convert_bytes_string w src dst e _ 0 cap h1 h2 hd]
    simp [Conv.bytesToString, loadCells, Sem.run_bind, Sem.run_pure]
    rfl
section
variable {x : Operand} {t t' ty : TypeId} {pos : String} {af : Array Edge} {gd : Option (Nat × Bool)} {d : Option Nat} {c : Bool}
/-- Immutable bytes. -/
theorem Pure.strRows {len : Nat} {g : Nat → List D} {xs : List Int} (hs : byteSl P t = true) (hd : P.underlying t' = some .string) (e1 : Ev S c x (.d (.rows 1 len g))) (hl : c = true → xs.length = len) (hg : c = true → ∀ i, i < len → g i = [.v (.int .u8 (xs.getD i 0))]) :
    Pure P S [] ⟨d, .convert t t' x, ty, pos, af, gd⟩ c (sv (strOf xs)) := by
  refine ⟨(fun _ h => nomatch h), fun E V M a w h hc => ?_⟩
  have h1 := h.opd x (by simp [Op.operands]) _ e1
  refine ⟨.string (strOf xs), ?_, .d _ _ (.v _)⟩
  have hm := h.mem
  clear h
  generalize a.eval = ρ at *
  generalize hv : ρ x = v at h1
  have key : (convert t t' v).run P w = .ok (.string (strOf xs)) w := by
    cases h1 with
    | d _ _ h1 =>
      cases h1 with
      | emp => rw [List.eq_nil_of_length_eq_zero (hl hc)]; exact run_bytesToStr0 hs hd
      | rows _ _ _ b o cap hcap hlen cc hmm hden =>
        refine run_bytesToStr hs hd (hl hc) fun i hi => ?_
        have hgi := hg hc i hi
        have h2 := hm b _ _ (hmm i 0 hi (by decide))
        have h3 := hden i 0 (.v (.int .u8 (xs.getD i 0))) hi (by rw [hgi]; rfl)
        have h4 : cc i 0 = .int .u8 (xs.getD i 0) := by
          generalize cc i 0 = u at h3
          cases h3; rfl
        rw [h4] at h2
        simpa using h2
  simp [execOp, hv, Sem.run_bind, key, Result.andThen, Sem.run_pure]
/-- Bytes that the function owns. -/
theorem Pure.strOwn {l len : Nat} {xs : List Int} (hs : byteSl P t = true) (hd : P.underlying t' = some .string) (e1 : Ev S c x (.own l len)) (hb : S.get (bk l) = some (.blk (.app 1 len [.ints .u8 xs]))) :
    Pure P S [l] ⟨d, .convert t t' x, ty, pos, af, gd⟩ c (sv (strOf xs)) := by
  refine ⟨(fun _ h => nomatch h), fun E V M a w h hc => ?_⟩
  have h1 := h.opd x (by simp [Op.operands]) _ e1
  have hB := h.blk l (by simp) _ hb
  refine ⟨.string (strOf xs), ?_, .d _ _ (.v _)⟩
  clear h
  generalize a.eval = ρ at *
  generalize hv : ρ x = v at h1
  obtain ⟨b1, b2, b3⟩ := hB
  have hlx : xs.length = len := b2 (.ints .u8 xs) (by simp)
  have key : (convert t t' v).run P w = .ok (.string (strOf xs)) w := by
    cases h1 with
    | ownNil _ hk =>
      rw [List.eq_nil_of_length_eq_zero hlx]; exact run_bytesToStr0 hs hd
    | own _ _ cap hk hcap =>
      rw [hk] at b3
      obtain ⟨_, vs, tt, hh, hsz, _, _, hr⟩ := b3
      refine run_bytesToStr hs hd hlx fun i hi => ?_
      obtain ⟨v, hv1, hv2⟩ := hr i 0 _ hi rfl
      cases hv2
      simpa [World.cell?, hh, Nat.mul_one] using hv1
  simp [execOp, hv, Sem.run_bind, key, Result.andThen, Sem.run_pure]
end

/-! A string's bytes. -/
/-- A step that makes a block that nobody writes. -/
theorem rep_imm {V : Vals} {M : Mem} {a : Act} {w w' : World} (ha : RepA E S V M a) (hw : RepW E S V M w) (hst : WStep w w' w.heap.size) {d : Nat} {x : D} {v : Value} (hd : d < E.nt) {vs : Array Value}
    (hc : ∀ o u, vs[o]? = some u → w'.cell? ⟨w.heap.size, o, none⟩ = some u) (hx : ∀ M', (∀ o, M' w.heap.size o = vs[o]?) → M.le M' → DenD M' x v) : Rep E (S.upd [(sl d, some (.av (.d x)))]) (a.put (some d) v) w' := by
  have hM0 : ∀ o, M w.heap.size o = none := fun o => by
    cases h : M w.heap.size o with
    | none => rfl
    | some u => have := hw.mem _ _ _ h; simp [World.cell?] at this
  have hle : M.le (fun b o => if b = w.heap.size then vs[o]? else M b o) := fun b o u h => by
    by_cases e : b = w.heap.size
    · subst e; rw [hM0 o] at h; cases h
    · simp only [if_neg e]; exact h
  have hb : ∀ l, (S.upd [(sl d, some (.av (.d x)))]).get (bk l) = S.get (bk l) := fun l => by rw [upd_one, if_neg (sl_ne_bk d l)]
  have hh : ∀ l, HasB V (S.upd [(sl d, some (.av (.d x)))]) l → HasB V S l := fun l hl => ⟨by simpa only [hb] using hl.1, hl.2⟩
  refine ⟨V, fun b o => if b = w.heap.size then vs[o]? else M b o, ⟨fun s y e => ?_, by simp [Act.put, ha.size], ha.defers⟩, ?_⟩
  · rw [upd_one] at e
    by_cases hs : d = s
    · subst hs
      rw [if_pos rfl] at e
      injection e with e; injection e with e; subst e
      exact ⟨v, by simp [Act.put, ha.size, hd], .d _ _ (hx _ (fun o => by simp) hle)⟩
    · rw [if_neg (fun e => hs (sl_inj e))] at e
      obtain ⟨u, hu, hdu⟩ := ha.slots s y e
      exact ⟨u, by simp [Act.put, hs, hu], hdu.mono hle fun _ _ => ⟨rfl, rfl⟩⟩
  · exact { blks := fun l B e => by
              rw [hb] at e
              refine ((hw.blks l B e).memMono hle).kept fun hk => ?_
              exact hst.other _ (Nat.ne_of_lt (hw.bd l ⟨⟨B, e⟩, hk⟩)) (hw.bd l ⟨⟨B, e⟩, hk⟩)
            inj := fun l l' a b => hw.inj l l' (hh l a) (hh l' b)
            sep := fun l a o => by
              have := hw.bd l (hh l a)
              simp only [if_neg (Nat.ne_of_lt this)]
              exact hw.sep l (hh l a) o
            fresh := fun l a => hw.fresh l (hh l a)
            bd := fun l a => Nat.lt_of_lt_of_le (hw.bd l (hh l a)) hst.size
            mem := fun b o u h => by
              by_cases e : b = w.heap.size
              · subst e; simp only [if_true] at h; exact hc o u h
              · simp only [if_neg e] at h; exact hst.cell e (hw.mem b o u h)
            mle := Mem.le_trans hw.mle hle
            mnew := fun b o h => by
              by_cases e : b = w.heap.size
              · subst e; exact .inr (.inl hw.frame.size)
              · simp only [if_neg e] at h; exact hw.mnew b o h
            keep := hw.keep
            frame := ⟨hst.os.trans hw.frame.os, hst.tape.trans hw.frame.tape, hst.output.trans hw.frame.output, Nat.le_trans hw.frame.size hst.size, fun b hb hp => by
              rw [← hw.frame.block b hb hp]
              exact hst.other b (Nat.ne_of_lt (Nat.lt_of_lt_of_le hb hw.frame.size)) (Nat.lt_of_lt_of_le hb hw.frame.size)⟩ }

theorem axOp_imm {S0 : St} {o : Oper} {t : Nat} {bl : List Nat} {x : D} (hdst : o.dst = some t) (hgd : o.guard = none) (hnd : ∀ d, o.op ≠ .defer d)
    (h : ∀ E V M a w, Given E S0 o bl true V M a w → ∃ w' v, ∃ vs : Array Value, (execOp a.eval o).run P w = .ok (.value v) w' ∧ WStep w w' w.heap.size ∧ (∀ o u, vs[o]? = some u → w'.cell? ⟨w.heap.size, o, none⟩ = some u) ∧ ∀ M' : Mem, (∀ o, M' w.heap.size o = vs[o]?) → M.le M' → DenD M' x v) :
    AxOp P ro ops o ⟨opNames o ++ bl.map bk, S0, [(sl t, some (.av (.d x)))], []⟩ := by
  intro E S a w hs hf hok ⟨V, M, ha, hw⟩ Q hpn
  have ht : t < E.nt := hok.2 t (by simp [Ax.names])
  obtain ⟨w', v, vs, hr, hst, hB, hx⟩ := h E V M a w (given_of (rn := opNames o ++ bl.map bk) hs (fun n hn => by simp [hn]) (fun l hl => by simp only [List.mem_append, List.mem_map]; right; exact ⟨l, hl, rfl⟩) rfl ha hw)
  unfold stepIn
  rw [if_pos (by simp [Region.wanted, hgd])]
  refine wpIn_of_value hnd hr ?_
  rw [hdst]
  exact rep_imm ha hw hst ht hB hx

def strD (s : ByteArray) : D := .rows 1 s.size fun i => [.v (.int .u8 ((s.data.toList.getD i 0).toNat : Int))]
theorem Trace.strBytes {S' : St} {r : List Oper} {L : List Ax} {d : Nat} {x : Operand} {t t' ty : TypeId} {pos : String} {af : Array Edge} {s : ByteArray} (hs : byteSl P t' = true) (hd : P.underlying t = some .string) (e1 : Ev S true x (sv s))
    (h : Trace P ro ops r ((sl d, .av (.d (strD s))) :: S) L S') :
    Trace P ro ops (⟨some d, .convert t t' x, ty, pos, af, none⟩ :: r) S (⟨opNames ⟨some d, .convert t t' x, ty, pos, af, none⟩ ++ ([] : List Nat).map bk, S, [(sl d, some (.av (.d (strD s))))], []⟩ :: L) S' := by
  refine .cons (axOp_imm rfl rfl (fun _ h => nomatch h) fun E V M a w hg => ?_) (fun _ _ => rfl) (fun l hl => by cases hl) (cons_upd S _ _) h
  have h1 := hg.val (by simp [Op.operands]) e1
  clear hg
  generalize a.eval = ρ at *
  obtain ⟨e, i, hu, hue, _⟩ := byteSl_of hs
  have hrun := Lib.run_convert_string_bytes (P := P) w t t' e s hd hu hue
  refine ⟨Lib.bytesWorld w e s, .slice (some ⟨w.heap.size, 0, none⟩) s.size (grownCap w s.size 0 e), Lib.bytesCells w e s, ?_, ?_, ?_, ?_⟩
  · simp [execOp, h1, Sem.run_bind, hrun, Result.andThen, Sem.run_pure]
  · exact ⟨by simp [Lib.bytesWorld, World.freeze, World.alloc, World.drew, -World.alloc_eq, -World.drew_eq], by simp [Lib.bytesWorld, World.freeze, World.alloc, World.drew, -World.alloc_eq, -World.drew_eq], by simp [Lib.bytesWorld, World.freeze, World.alloc, World.drew, -World.alloc_eq, -World.drew_eq], by rw [Lib.bytesWorld_size]; omega, fun b _ hlt => Lib.bytesWorld_at_old w e s b hlt, by rw [Lib.bytesWorld_size]; omega⟩
  · intro o u hou
    simp [World.cell?, Lib.bytesWorld_at_new, hou]
  · intro M' hM' _
    have hcap : s.size ≤ grownCap w s.size 0 e := grownCap_ge w s.size 0 e
    by_cases h0 : s.size = 0
    · unfold strD
      rw [h0]
      exact .emp _ _ _ _
    · refine .rows 1 s.size _ w.heap.size 0 _ hcap (fun i hi => rfl) (fun i j => .int .u8 ((s.data.toList.getD i 0).toNat : Int)) (fun i j hi hj => ?_) (fun i j x hi hx => ?_)
      · obtain rfl : j = 0 := by omega
        rw [hM']
        have hi' : i < s.data.size := hi
        simp [Lib.bytesCells, Array.getElem?_append, hi, hi', List.getD]
      · cases j with
        | zero => simp only [List.getElem?_cons_zero, Option.some.injEq] at hx; subst hx; exact .v _
        | succ j => simp at hx

end Go.Proofs.Ytcnikeonaklkoaa
