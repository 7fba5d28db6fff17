/- Turns of a state that no operation makes. No program in sight. -/
import Derived.Test.YtcnikeonaklkoaaBuild
namespace Go.Proofs.Ytcnikeonaklkoaa
open Go
set_option linter.unusedVariables false
set_option linter.unusedSimpArgs false
variable {P : Program} {S : St} {ro : Ro} {ops : Array Oper} {E : Env}

theorem St.le_nil (S : St) : St.le [] S := fun n c h => by simp [St.get] at h
theorem St.le_cons {S r : St} {n : Nat} {c : Cont} (h : S.get n = some c) (t : St.le r S) : St.le ((n, c) :: r) S := fun m d e => by
  simp only [St.get, nbeq] at e
  by_cases hm : n = m
  · subst hm; simp at e; subst e; exact h
  · simp [hm] at e; exact t m d e

def Ghost (E : Env) (S T : St) : Prop := ∀ a w, Rep E S a w → Rep E T a w
theorem WPA.ghost {c : Code} {S T : St} {Q : Exit → St → Prop} (g : Ghost E S T) (h : WPA P ro E c T Q) : WPA P ro E c S Q := fun a w ⟨ms, h0, h1, h2, h3⟩ => h a w ⟨ms, h0, h1, h2, g _ w h3⟩
theorem Ghost.trans {S T U : St} (g : Ghost E S T) (h : Ghost E T U) : Ghost E S U := fun a w hr => h a w (g a w hr)
theorem Ghost.weaken {S T : St} (h : T.le S) : Ghost E S T := fun a w hr => hr.weaken h

/-- A nil slice as one that the function owns. -/
theorem Ghost.ownNil {t l n : Nat} {cs : List Col} (hs : S.get (sl t) = some (.av nilS)) (hf : ∀ m c, S.get m = some c → m ≠ bk l → ¬ CMent c l) (hk : l ∉ E.keep) (ht : t < E.nt) (hn : cs.length = n) (hc : ∀ c ∈ cs, c.len = 0) :
    Ghost E S (S.upd [(bk l, some (.blk (.app n 0 cs))), (sl t, some (.av (.own l 0)))]) := by
  rintro a w ⟨V, M, ha, hw⟩
  obtain ⟨v, hv, hd⟩ := ha.slots t _ hs
  have hvv : v = .slice none 0 0 := den_v hd
  have hput : a.put (some t) (.slice none 0 0) = a := by
    have ht' : t < a.tmps.size := by rw [ha.size]; exact ht
    have : a.tmps.setIfInBounds t (.slice none 0 0) = a.tmps := by
      apply Array.ext_getElem?
      intro i
      rw [Array.getElem?_setIfInBounds]
      split
      · rename_i h; subst h; rw [hv, hvv]
      · rfl
    simp only [Act.put, this]
  have h := rep_nil (ds := []) (l' := l) (B := .app n 0 cs) (d := t) (x := .own l 0) (v := .slice none 0 0) ha hw (fun m c hm hp => ?_) hk ht ⟨hn, hc, by simp⟩ (.ownNil l (by simp))
  · rw [hput] at h; exact h
  · rw [names_postOf] at hp
    exact hf m c hm (fun e => hp (.inr (.inl e)))

/-- The rows of a block, as immutable data. -/
def rowsD (n len : Nat) (cs : List Col) : D := .rows n len fun i => cs.map (Col.at · i)

theorem denD_new {M : Mem} {n len cap b : Nat} {cs : List Col} {vs : Array Value} {M' : Mem} (hle : M.le M') (hr : rowsAt M n len cs vs) (hcap : len ≤ cap) (hM : ∀ k u, vs[k]? = some u → M' b k = some u) : DenD M' (rowsD n len cs) (.slice (some ⟨b, 0, none⟩) len cap) := by
  obtain ⟨h1, h2, h3⟩ := hr
  refine .rows n len _ b 0 cap hcap (fun i hi => by simp [h1]) (fun i j => (vs[i * n + j]?).getD undef) (fun i j hi hj => ?_) (fun i j x hi hx => ?_)
  · obtain ⟨v, hv, _⟩ := h3 i j cs[j] hi (List.getElem?_eq_getElem (by omega))
    rw [Nat.zero_add, hM _ _ hv, hv]; rfl
  · simp only [List.getElem?_map, Option.map_eq_some_iff] at hx
    obtain ⟨c, hc, rfl⟩ := hx
    obtain ⟨v, hv, hd⟩ := h3 i j c hi hc
    rw [hv]
    exact hd.mono hle

theorem BlkAt.memMono {V : Vals} {M M' : Mem} {w : World} {l : Nat} {B : Blk} (h : BlkAt V M w l B) (hle : M.le M') : BlkAt V M' w l B := by
  have hr : ∀ {n len : Nat} {cs : List Col} {vs : Array Value}, rowsAt M n len cs vs → rowsAt M' n len cs vs := fun ⟨a, b, c⟩ => ⟨a, b, fun i j k hi hk => let ⟨v, hv, hd⟩ := c i j k hi hk; ⟨v, hv, hd.mono hle⟩⟩
  cases B with
  | cells cs => obtain ⟨a1, vs, t, a2, a3, a4⟩ := h; exact ⟨a1, vs, t, a2, a3, fun j x y hx hy => (a4 j x y hx hy).mono hle fun _ _ => ⟨rfl, rfl⟩⟩
  | data ds => obtain ⟨a1, vs, t, a2, a3, a4⟩ := h; exact ⟨a1, vs, t, a2, a3, fun j x y hx hy => (a4 j x y hx hy).mono hle fun _ _ => ⟨rfl, rfl⟩⟩
  | cols n len cs => obtain ⟨a1, vs, t, a2, a3, a4⟩ := h; exact ⟨a1, vs, t, a2, a3, hr a4⟩
  | app n len cs =>
    obtain ⟨a1, a2, a3⟩ := h
    refine ⟨a1, a2, ?_⟩
    split
    · rename_i hk; rw [hk] at a3; exact a3
    · rename_i cap hk
      rw [hk] at a3
      obtain ⟨b1, vs, t, b2, b3, b4⟩ := a3
      exact ⟨b1, vs, t, b2, b3, hr b4⟩
  | lp h' ts => exact lpAt.turn h hle ⟨rfl, rfl⟩ (fun _ _ => ⟨rfl, rfl⟩) (fun _ => rfl)
  | appv cs => exact appvAt.turn h hle ⟨rfl, rfl⟩ (fun _ _ => ⟨rfl, rfl⟩) (fun _ => rfl)

/-- A slice that the function owns becomes immutable data. -/
theorem Ghost.freeze {t l n len : Nat} {cs : List Col} (hs : S.get (sl t) = some (.av (.own l len))) (hb : S.get (bk l) = some (.blk (.app n len cs))) :
    Ghost E S (S.upd [(bk l, none), (sl t, some (.av (.d (rowsD n len cs))))]) := by
  rintro a w ⟨V, M, ha, hw⟩
  obtain ⟨v, hv, hd⟩ := ha.slots t _ hs
  have hget : ∀ m, (S.upd [(bk l, none), (sl t, some (.av (.d (rowsD n len cs))))]).get m = if sl t = m then some (.av (.d (rowsD n len cs))) else if bk l = m then none else S.get m := fun m => by rw [St.get_upd]; rfl
  have hgb : ∀ m B, (S.upd [(bk l, none), (sl t, some (.av (.d (rowsD n len cs))))]).get (bk m) = some (.blk B) → m ≠ l ∧ S.get (bk m) = some (.blk B) := by
    intro m B h
    rw [hget, if_neg (sl_ne_bk t m)] at h
    by_cases hm : bk l = bk m
    · rw [if_pos hm] at h; cases h
    · rw [if_neg hm] at h; exact ⟨fun e => hm (by rw [e]), h⟩
  have hblk := hw.blks l _ hb
  obtain ⟨b1, b2, b3⟩ := hblk
  -- the new memory
  obtain ⟨M', hle, hM', hden⟩ : ∃ M' : Mem, M.le M' ∧ (∀ b o u, M' b o = some u → M b o = some u ∨ (b = V.ρ l ∧ V.κ l ≠ none ∧ w.cell? ⟨b, o, none⟩ = some u)) ∧ Den V M' (.d (rowsD n len cs)) v := by
    cases hd with
    | ownNil _ hk =>
      exact ⟨M, Mem.le_refl M, fun b o u h => .inl h, .d _ _ (.emp _ _ _ _)⟩
    | own _ _ cap hk hc =>
      rw [hk] at b3
      obtain ⟨_, vs, tt, hh, hsz, hr⟩ := b3
      have hM0 : ∀ o, M (V.ρ l) o = none := hw.sep l ⟨⟨_, hb⟩, by rw [hk]; simp⟩
      refine ⟨fun b o => if b = V.ρ l then vs[o]? else M b o, fun b o u h => ?_, fun b o u h => ?_, .d _ _ (denD_new (M := M) ?_ hr hc fun k u h => by simpa using h)⟩
      · by_cases e : b = V.ρ l
        · subst e; rw [hM0 o] at h; cases h
        · simp only [if_neg e]; exact h
      · by_cases e : b = V.ρ l
        · subst e
          simp only [if_true] at h
          right
          exact ⟨rfl, by rw [hk]; simp, by simp [World.cell?, hh, h]⟩
        · simp only [if_neg e] at h; exact .inl h
      · intro b o u h
        by_cases e : b = V.ρ l
        · subst e; rw [hM0 o] at h; cases h
        · simp only [if_neg e]; exact h
  refine ⟨V, M', ⟨fun s x hx => ?_, ha.size, ha.defers⟩, ?_⟩
  · rw [hget] at hx
    by_cases hst : sl t = sl s
    · rw [if_pos hst] at hx
      injection hx with hx; injection hx with hx; subst hx
      rw [← sl_inj hst]
      exact ⟨v, hv, hden⟩
    · rw [if_neg hst, if_neg (Ne.symm (sl_ne_bk s l))] at hx
      obtain ⟨u, hu, hdu⟩ := ha.slots s x hx
      exact ⟨u, hu, hdu.mono hle fun _ _ => ⟨rfl, rfl⟩⟩
  · have hh : ∀ m, HasB V (S.upd [(bk l, none), (sl t, some (.av (.d (rowsD n len cs))))]) m → m ≠ l ∧ HasB V S m := fun m ⟨⟨B, e⟩, k⟩ => ⟨(hgb m B e).1, ⟨B, (hgb m B e).2⟩, k⟩
    have hne : ∀ m, HasB V S m → m ≠ l → V.κ l ≠ none → V.ρ m ≠ V.ρ l := fun m hm hml hk => hw.inj m l hm ⟨⟨_, hb⟩, hk⟩ hml
    exact { blks := fun m B e => (hw.blks m B (hgb m B e).2).memMono hle
            inj := fun m k hm hk' => hw.inj m k (hh m hm).2 (hh k hk').2
            sep := fun m hm o => by
              obtain ⟨h1, h2⟩ := hh m hm
              cases hc : M' (V.ρ m) o with
              | none => rfl
              | some u =>
                rcases hM' _ _ _ hc with h | ⟨h, hk, _⟩
                · rw [hw.sep m h2 o] at h; cases h
                · exact absurd h (hne m h2 h1 hk)
            fresh := fun m hm => hw.fresh m (hh m hm).2
            bd := fun m hm => hw.bd m (hh m hm).2
            mem := fun b o u h => by
              rcases hM' b o u h with h | ⟨_, _, h⟩
              · exact hw.mem b o u h
              · exact h
            mle := Mem.le_trans hw.mle hle
            mnew := fun b o h => by
              cases hc : M' b o with
              | none => exact absurd hc h
              | some u =>
                rcases hM' b o u hc with h | ⟨h, hk, _⟩
                · exact hw.mnew b o (by rw [h]; simp)
                · rw [h]
                  rcases hw.fresh l ⟨⟨_, hb⟩, hk⟩ with h | h
                  · exact .inr (.inl h)
                  · exact .inr (.inr h)
            keep := hw.keep, frame := hw.frame }

/-- One block's shape, read otherwise. -/
theorem Ghost.reblk {l : Nat} {B B' : Blk} (hb : S.get (bk l) = some (.blk B)) (h : ∀ V M w, BlkAt V M w l B → BlkAt V M w l B') : Ghost E S (S.upd [(bk l, some (.blk B'))]) := by
  rintro a w ⟨V, M, ha, hw⟩
  refine ⟨V, M, repA_blk ha l B', ?_⟩
  have hg : ∀ m C, (S.upd [(bk l, some (.blk B'))]).get (bk m) = some (.blk C) → (m = l ∧ C = B') ∨ S.get (bk m) = some (.blk C) := fun m C e => by
    rw [upd_one] at e
    by_cases hm : bk l = bk m
    · rw [if_pos hm] at e; injection e with e; injection e with e; left; exact ⟨by unfold bk at hm; omega, e.symm⟩
    · rw [if_neg hm] at e; exact .inr e
  have hh : ∀ m, HasB V (S.upd [(bk l, some (.blk B'))]) m → HasB V S m := fun m ⟨⟨C, e⟩, k⟩ => by
    rcases hg m C e with ⟨rfl, _⟩ | e
    · exact ⟨⟨B, hb⟩, k⟩
    · exact ⟨⟨C, e⟩, k⟩
  exact { blks := fun m C e => by
            rcases hg m C e with ⟨rfl, rfl⟩ | e
            · exact h V M w (hw.blks _ _ hb)
            · exact hw.blks m C e
          inj := fun m k a b => hw.inj m k (hh m a) (hh k b), sep := fun m a => hw.sep m (hh m a), fresh := fun m a => hw.fresh m (hh m a), bd := fun m a => hw.bd m (hh m a), mem := hw.mem, mle := hw.mle, mnew := hw.mnew, keep := hw.keep, frame := hw.frame }
/-- Cells of plain data as the one column of an array. -/
theorem Ghost.toCols {l : Nat} {ds : List D} {col : Col} (hb : S.get (bk l) = some (.blk (.cells (ds.map .d)))) (hc : colOf ds = col) : Ghost E S (S.upd [(bk l, some (.blk (.cols 1 ds.length [col])))]) := by
  refine Ghost.reblk hb fun V M w ⟨hk, vs, t, hh, hs, hd⟩ => ⟨hk, vs, t, hh, by simpa using hs, rfl, fun c h => ?_, fun i j c hi hj => ?_⟩
  · simp at h; subst h; rw [← hc]; exact (colOf_spec ds).1
  · cases j with
    | zero =>
      simp at hj; subst hj
      have hi' : i < vs.size := by simp at hs; omega
      refine ⟨vs[i], by simp [hi'], ?_⟩
      rw [← hc, (colOf_spec ds).2 i hi, List.getD_eq_getElem?_getD, List.getElem?_eq_getElem hi]
      have := hd i (.d ds[i]) vs[i] (by simp [hi]) (Array.getElem?_eq_getElem hi')
      cases this with | d _ _ h => exact h
    | succ j => simp at hj

theorem Ghost.toCols' {l : Nat} {cs : List AV} {ds : List D} {col : Col} {n : Nat} (hb : S.get (bk l) = some (.blk (.cells cs))) (hd : dsOf cs = some ds) (hn : ds.length = n) (hc : colOf ds = col) : Ghost E S ((bk l, .blk (.cols 1 n [col])) :: S) := by
  subst hn
  rw [dsOf_eq hd] at hb
  exact (Ghost.toCols hb hc).trans (Ghost.weaken fun n c e => by rw [← cons_upd]; exact e)

theorem Ghost.ownNil' {t l n : Nat} {cs : List Col} (hs : S.get (sl t) = some (.av nilS)) (hf : freshB ⟨[], S, [(bk l, none)], [l]⟩ S = true) (hk : l ∉ E.keep) (ht : t < E.nt) (hn : cs.length = n) (hc : ∀ c ∈ cs, c.len = 0) :
    Ghost E S ((sl t, .av (.own l 0)) :: (bk l, .blk (.app n 0 cs)) :: S) :=
  (Ghost.ownNil hs (fun m c hm hne => fresh_of hf l (by simp) m c hm (by simpa [Ax.names] using hne)) hk ht hn hc).trans (Ghost.weaken fun m c e => by
    rw [get_cons, get_cons] at e
    show (St.ins (sl t) _ (St.ins (bk l) _ S)).get m = _
    rw [St.get_ins, St.get_ins]; exact e)
theorem Ghost.freeze' {t l n len : Nat} {cs : List Col} (hs : S.get (sl t) = some (.av (.own l len))) (hb : S.get (bk l) = some (.blk (.app n len cs))) :
    Ghost E S ((sl t, .av (.d (rowsD n len cs))) :: St.del (bk l) S) :=
  (Ghost.freeze hs hb).trans (Ghost.weaken fun m c e => by
    rw [get_cons, St.get_del] at e
    show (St.ins (sl t) _ (St.del (bk l) S)).get m = _
    rw [St.get_ins, St.get_del]; exact e)

theorem Ghost.dataCells {l : Nat} {ds : List D} {cs : List AV} (hb : S.get (bk l) = some (.blk (.data ds))) (hc : ds.map .d = cs) : Ghost E S ((bk l, .blk (.cells cs)) :: S) := by
  subst hc
  exact (Ghost.reblk (B' := .cells (ds.map .d)) hb fun V M w h => h).trans (Ghost.weaken fun n c e => by rw [← cons_upd]; exact e)
theorem Ghost.dataCols {l : Nat} {ds : List D} {col : Col} {n : Nat} (hb : S.get (bk l) = some (.blk (.data ds))) (hn : ds.length = n) (hc : colOf ds = col) : Ghost E S ((bk l, .blk (.cols 1 n [col])) :: S) := by
  subst hn
  refine (Ghost.dataCells hb rfl).trans ((Ghost.toCols (get_cons _ _ _ _ ▸ if_pos rfl) hc).trans (Ghost.weaken fun n c e => ?_))
  rw [get_cons] at e
  rw [← cons_upd, get_cons, get_cons]
  split
  · rename_i h; rw [if_pos h] at e; exact e
  · rename_i h; rw [if_neg h] at e; exact e

end Go.Proofs.Ytcnikeonaklkoaa
