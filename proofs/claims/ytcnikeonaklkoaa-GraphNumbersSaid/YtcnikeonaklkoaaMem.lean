/- What becomes of an abstract state when a block is made, or one of its own blocks is written. No program in sight. -/
import Derived.Test.YtcnikeonaklkoaaOps
namespace Go.Proofs.Ytcnikeonaklkoaa
open Go
set_option linter.unusedVariables false
set_option linter.unusedSimpArgs false

def Vals.set (V : Vals) (l b : Nat) (k : Option Nat) : Vals := ⟨fun m => if m = l then b else V.ρ m, fun m => if m = l then k else V.κ m⟩
@[simp] theorem Vals.set_ρ (V : Vals) (l b : Nat) (k : Option Nat) : (V.set l b k).ρ l = b := by simp [Vals.set]
@[simp] theorem Vals.set_κ (V : Vals) (l b : Nat) (k : Option Nat) : (V.set l b k).κ l = k := by simp [Vals.set]
theorem Vals.set_ne (V : Vals) {l m : Nat} (b : Nat) (k : Option Nat) (h : m ≠ l) : (V.set l b k).ρ m = V.ρ m ∧ (V.set l b k).κ m = V.κ m := by simp [Vals.set, h]

theorem Den.relab {V : Vals} {M : Mem} {x : AV} {v : Value} (h : Den V M x v) {l : Nat} (b : Nat) (k : Option Nat) (hm : ¬ Ment x l) : Den (V.set l b k) M x v :=
  h.mono (Mem.le_refl M) fun m hm' => V.set_ne b k fun e => hm (e ▸ hm')

/-- w' is w but for block β, which holds o. -/
structure WStep (w w' : World) (β : Nat) : Prop where
  os : w'.os = w.os
  tape : w'.tape = w.tape
  output : w'.output = w.output
  size : w.heap.size ≤ w'.heap.size
  other : ∀ b, b ≠ β → b < w.heap.size → w'.heap[b]? = w.heap[b]?
  lt : β < w'.heap.size

theorem WStep.cell {w w' : World} {β : Nat} (h : WStep w w' β) {b o : Nat} {v : Value} (hb : b ≠ β) (hc : w.cell? ⟨b, o, none⟩ = some v) : w'.cell? ⟨b, o, none⟩ = some v := by
  unfold World.cell? at *
  have hlt : b < w.heap.size := by
    rcases Nat.lt_or_ge b w.heap.size with h | h
    · exact h
    · simp [Array.getElem?_eq_none h] at hc
  rw [h.other b hb hlt]
  exact hc

theorem BlkAt.relab {V : Vals} {M : Mem} {w w' : World} {l l' : Nat} {B : Blk} (h : BlkAt V M w l B) (b : Nat) (k : Option Nat) (hne : l ≠ l') (hm : ¬ BMent B l') (hw : V.κ l ≠ none → w'.heap[V.ρ l]? = w.heap[V.ρ l]?) : BlkAt (V.set l' b k) M w' l B := by
  obtain ⟨e1, e2⟩ := V.set_ne b k hne
  have key : ∀ cs, cellsAt V M w l cs → (∀ x ∈ cs, ¬ Ment x l') → cellsAt (V.set l' b k) M w' l cs := by
    intro cs h hm
    obtain ⟨hk, vs, t, hb, hs, hd⟩ := h
    exact ⟨by rwa [e2], vs, t, by rw [e1, hw hk]; exact hb, hs, fun j x y hx hy => (hd j x y hx hy).relab b k fun hmx => hm x (List.mem_of_getElem? hx) hmx⟩
  cases B with
  | cells cs => exact key cs h fun x hx hmx => hm (.cells cs x l' hx hmx)
  | data ds => exact key _ h fun x hx hmx => by obtain ⟨y, _, rfl⟩ := List.mem_map.1 hx; cases hmx
  | cols n len cs =>
    obtain ⟨hk, vs, t, hb, hs, hr⟩ := h
    exact ⟨by rwa [e2], vs, t, by rw [e1, hw hk]; exact hb, hs, hr⟩
  | app n len cs =>
    obtain ⟨h1, h2, h3⟩ := h
    refine ⟨h1, h2, ?_⟩
    rw [e2, e1]
    cases hk : V.κ l with
    | none => rw [hk] at h3; exact h3
    | some cap =>
      rw [hk] at h3
      obtain ⟨hc, vs, t, hb, hs, hr⟩ := h3
      exact ⟨hc, vs, t, by rw [hw (by rw [hk]; simp)]; exact hb, hs, hr⟩
  | lp h' ts =>
    have e : ∀ m, m ≠ l' → (V.set l' b k).ρ m = V.ρ m ∧ (V.set l' b k).κ m = V.κ m := fun m hm => V.set_ne b k hm
    exact lpAt.turn h (Mem.le_refl _) ⟨e1, e2⟩ (fun m hm' => e m fun h => hm (h ▸ hm')) hw
  | appv cs =>
    have e : ∀ m, m ≠ l' → (V.set l' b k).ρ m = V.ρ m ∧ (V.set l' b k).κ m = V.κ m := fun m hm => V.set_ne b k hm
    exact appvAt.turn h (Mem.le_refl _) ⟨e1, e2⟩ (fun m hm' => e m fun h => hm (h ▸ hm')) hw

def delsOf (ds : List Nat) : List (Nat × Option Cont) := ds.map fun n => (n, none)
theorem lastOf_append (n : Nat) (d : Option Cont) (u v : List (Nat × Option Cont)) : lastOf n d (u ++ v) = lastOf n (lastOf n d u) v := by
  induction u generalizing d with
  | nil => rfl
  | cons x r ih => obtain ⟨m, c⟩ := x; simp only [List.cons_append, lastOf]; exact ih _
theorem lastOf_dels (n : Nat) (d : Option Cont) (ds : List Nat) : lastOf n d (delsOf ds) = if n ∈ ds then none else d := by
  induction ds generalizing d with
  | nil => rfl
  | cons m r ih =>
    simp only [delsOf, List.map_cons, lastOf] at *
    rw [ih]
    by_cases h : m = n
    · simp [h]
    · by_cases h' : n ∈ r
      · simp [h', h]
      · simp [h', h, Ne.symm h]

/-- What a step that makes (or turns) label l' leaves behind: names that are dropped, the block, the slot. -/
abbrev postOf (ds : List Nat) (l' : Nat) (B : Blk) (d : Nat) (x : AV) : List (Nat × Option Cont) := delsOf ds ++ [(bk l', some (.blk B)), (sl d, some (.av x))]
theorem get_postOf (S : St) (ds : List Nat) (l' : Nat) (B : Blk) (d : Nat) (x : AV) (n : Nat) :
    (S.upd (postOf ds l' B d x)).get n = if sl d = n then some (.av x) else if bk l' = n then some (.blk B) else if n ∈ ds then none else S.get n := by
  rw [St.get_upd, lastOf_append, lastOf_dels]
  simp only [lastOf]

def St.dels : List Nat → St → St
  | [], S => S
  | n :: r, S => St.dels r (St.del n S)
theorem get_dels : ∀ (ds : List Nat) (S : St) (m : Nat), (St.dels ds S).get m = if m ∈ ds then none else S.get m
  | [], S, m => by simp [St.dels]
  | n :: r, S, m => by
    simp only [St.dels]
    rw [get_dels r, St.get_del]
    by_cases h1 : m ∈ r
    · simp [h1]
    · by_cases h2 : n = m
      · subst h2; simp [h1]
      · simp [h1, h2, Ne.symm h2]
/-- The state behind a step that makes (or turns) label l'. -/
abbrev St.after (S : St) (ds : List Nat) (l' : Nat) (B : Blk) (d : Nat) (x : AV) : St := (sl d, .av x) :: (bk l', .blk B) :: St.dels ds S
theorem after_upd (S : St) (ds : List Nat) (l' : Nat) (B : Blk) (d : Nat) (x : AV) : ∀ n, (S.after ds l' B d x).get n = (S.upd (postOf ds l' B d x)).get n := fun n => by
  rw [get_postOf, get_cons, get_cons, get_dels]

section
variable {E : Env} {S : St} {V : Vals} {M : Mem} {a : Act} {w w' : World}

theorem names_postOf {ds : List Nat} {l' : Nat} {B : Blk} {d : Nat} {x : AV} {n : Nat} : n ∈ (postOf ds l' B d x).map Prod.fst ↔ n ∈ ds ∨ n = bk l' ∨ n = sl d := by
  simp only [postOf, delsOf, List.map_append, List.map_map, List.map_cons, List.map_nil, List.mem_append, List.mem_map, Function.comp, List.mem_cons, List.not_mem_nil, or_false]
  constructor
  · rintro (⟨m, hm, rfl⟩ | h)
    · exact .inl hm
    · exact .inr h
  · rintro (h | h)
    · exact .inl ⟨n, h, rfl⟩
    · exact .inr h

/-- A step that makes label l' (on a new block, or on an owned block whose elder label is dropped). -/
theorem rep_step (ha : RepA E S V M a) (hw : RepW E S V M w) {β : Nat} (hst : WStep w w' β) {ds : List Nat} {l' : Nat} {κ' : Option Nat} {B : Blk} {d : Nat} {x : AV} {v : Value}
    (hβ : β = w.heap.size ∨ ∃ l, HasB V S l ∧ V.ρ l = β ∧ (bk l ∈ ds ∨ l = l'))
    (hf : ∀ n c, S.get n = some c → n ∉ (postOf ds l' B d x).map Prod.fst → ¬ CMent c l') (hk : l' ∉ E.keep) (hd : d < E.nt)
    (hB : BlkAt (V.set l' β κ') M w' l' B) (hx : Den (V.set l' β κ') M x v) : Rep E (S.upd (postOf ds l' B d x)) (a.put (some d) v) w' := by
  have hold : ∀ n c, (S.upd (postOf ds l' B d x)).get n = some c → n ≠ sl d → n ≠ bk l' → S.get n = some c ∧ n ∉ ds ∧ ¬ CMent c l' := by
    intro n c hc h1 h2
    rw [get_postOf, if_neg (Ne.symm h1), if_neg (Ne.symm h2)] at hc
    by_cases hn : n ∈ ds
    · rw [if_pos hn] at hc; cases hc
    · rw [if_neg hn] at hc
      refine ⟨hc, hn, hf n c hc ?_⟩
      rw [names_postOf]
      rintro (h | h | h)
      · exact hn h
      · exact h2 h
      · exact h1 h
  have hhas : ∀ l, HasB (V.set l' β κ') (S.upd (postOf ds l' B d x)) l → l ≠ l' → HasB V S l ∧ bk l ∉ ds := by
    rintro l ⟨⟨C, hC⟩, hkl⟩ hne
    obtain ⟨h1, h2, _⟩ := hold (bk l) _ hC (Ne.symm (sl_ne_bk d l)) (fun e => hne (by unfold bk at e; omega))
    exact ⟨⟨⟨C, h1⟩, by rwa [(V.set_ne β κ' hne).2] at hkl⟩, h2⟩
  have hβne : ∀ l, HasB V S l → l ≠ l' → bk l ∉ ds → V.ρ l ≠ β := by
    intro l hl hne hds e
    rcases hβ with h | ⟨m, hm, hmb, hmd⟩
    · have := hw.bd l hl; omega
    · by_cases hlm : l = m
      · subst hlm
        rcases hmd with h | h
        · exact hds h
        · exact hne h
      · exact hw.inj l m hl hm hlm (e.trans hmb.symm)
  have hβM : ∀ o, M β o = none := by
    intro o
    rcases hβ with h | ⟨m, hm, hmb, _⟩
    · cases hc : M β o with
      | none => rfl
      | some u =>
        have := hw.mem _ _ _ hc
        subst h
        simp [World.cell?] at this
    · rw [← hmb]; exact hw.sep m hm o
  refine ⟨V.set l' β κ', M, ⟨?_, by simp [Act.put, ha.size], ha.defers⟩, ?_⟩
  · intro t y hy
    by_cases ht : t = d
    · subst ht
      rw [get_postOf, if_pos rfl] at hy
      injection hy with hy; injection hy with hy; subst hy
      exact ⟨v, by simp [Act.put, ha.size, hd], hx⟩
    · obtain ⟨h1, _, h3⟩ := hold (sl t) _ hy (fun e => ht (sl_inj e)) (sl_ne_bk t l')
      obtain ⟨u, hu, hdu⟩ := ha.slots t y h1
      exact ⟨u, by simp [Act.put, Ne.symm ht, hu], hdu.relab β κ' h3⟩
  · refine { blks := ?_, inj := ?_, sep := ?_, fresh := ?_, bd := ?_, mem := ?_, mle := hw.mle, mnew := hw.mnew, keep := ?_, frame := ?_ }
    · intro l C hC
      by_cases hl : l = l'
      · subst hl
        rw [get_postOf, if_neg (sl_ne_bk d l), if_pos rfl] at hC
        injection hC with hC; injection hC with hC; subst hC
        exact hB
      · obtain ⟨h1, h2, h3⟩ := hold (bk l) _ hC (Ne.symm (sl_ne_bk d l)) (fun e => hl (by unfold bk at e; omega))
        refine (hw.blks l C h1).relab β κ' hl h3 fun hkl => ?_
        have hhb : HasB V S l := ⟨⟨C, h1⟩, hkl⟩
        exact hst.other _ (hβne l hhb hl h2) (hw.bd l hhb)
    · intro l m hl hm hne
      by_cases h1 : l = l'
      · subst h1
        have h2 : m ≠ l := Ne.symm hne
        obtain ⟨hm', hmd⟩ := hhas m hm h2
        rw [Vals.set_ρ, (V.set_ne β κ' h2).1]
        exact Ne.symm (hβne m hm' h2 hmd)
      · obtain ⟨hl', hld⟩ := hhas l hl h1
        by_cases h2 : m = l'
        · subst h2
          rw [Vals.set_ρ, (V.set_ne β κ' h1).1]
          exact hβne l hl' h1 hld
        · obtain ⟨hm', hmd⟩ := hhas m hm h2
          rw [(V.set_ne β κ' h1).1, (V.set_ne β κ' h2).1]
          exact hw.inj l m hl' hm' hne
    · intro l hl o
      by_cases h1 : l = l'
      · subst h1; rw [Vals.set_ρ]; exact hβM o
      · rw [(V.set_ne β κ' h1).1]; exact hw.sep l (hhas l hl h1).1 o
    · intro l hl
      by_cases h1 : l = l'
      · subst h1; rw [Vals.set_ρ]
        rcases hβ with h | ⟨m, hm, hmb, _⟩
        · left; have := hw.frame.size; omega
        · rw [← hmb]; exact hw.fresh m hm
      · rw [(V.set_ne β κ' h1).1]; exact hw.fresh l (hhas l hl h1).1
    · intro l hl
      by_cases h1 : l = l'
      · subst h1; rw [Vals.set_ρ]; exact hst.lt
      · rw [(V.set_ne β κ' h1).1]; exact Nat.lt_of_lt_of_le (hw.bd l (hhas l hl h1).1) hst.size
    · intro b o u hu
      refine hst.cell (fun e => ?_) (hw.mem b o u hu)
      rw [e, hβM o] at hu; cases hu
    · intro l hl
      have hne : l ≠ l' := fun e => hk (e ▸ hl)
      rw [(V.set_ne β κ' hne).1, (V.set_ne β κ' hne).2]
      exact hw.keep l hl
    · refine ⟨hst.os.trans hw.frame.os, hst.tape.trans hw.frame.tape, hst.output.trans hw.frame.output, Nat.le_trans hw.frame.size hst.size, fun b hb hp => ?_⟩
      rw [← hw.frame.block b hb hp]
      refine hst.other b (fun e => ?_) (Nat.lt_of_lt_of_le hb hw.frame.size)
      rcases hβ with h | ⟨m, hm, hmb, _⟩
      · have := hw.frame.size; omega
      · rcases hw.fresh m hm with h | h
        · omega
        · exact hp (by rw [e, ← hmb]; exact h)

/-- A step that makes label l' without a block (a nil slice). -/
theorem rep_nil (ha : RepA E S V M a) (hw : RepW E S V M w) {ds : List Nat} {l' : Nat} {B : Blk} {d : Nat} {x : AV} {v : Value}
    (hf : ∀ n c, S.get n = some c → n ∉ (postOf ds l' B d x).map Prod.fst → ¬ CMent c l') (hk : l' ∉ E.keep) (hd : d < E.nt)
    (hB : BlkAt (V.set l' 0 none) M w l' B) (hx : Den (V.set l' 0 none) M x v) : Rep E (S.upd (postOf ds l' B d x)) (a.put (some d) v) w := by
  have hold : ∀ n c, (S.upd (postOf ds l' B d x)).get n = some c → n ≠ sl d → n ≠ bk l' → S.get n = some c ∧ n ∉ ds ∧ ¬ CMent c l' := by
    intro n c hc h1 h2
    rw [get_postOf, if_neg (Ne.symm h1), if_neg (Ne.symm h2)] at hc
    by_cases hn : n ∈ ds
    · rw [if_pos hn] at hc; cases hc
    · rw [if_neg hn] at hc
      refine ⟨hc, hn, hf n c hc ?_⟩
      rw [names_postOf]
      rintro (h | h | h)
      · exact hn h
      · exact h2 h
      · exact h1 h
  have hhas : ∀ l, HasB (V.set l' 0 none) (S.upd (postOf ds l' B d x)) l → l ≠ l' ∧ HasB V S l := by
    rintro l ⟨⟨C, hC⟩, hkl⟩
    have hne : l ≠ l' := fun e => hkl (by rw [e]; simp)
    obtain ⟨h1, h2, _⟩ := hold (bk l) _ hC (Ne.symm (sl_ne_bk d l)) (fun e => hne (by unfold bk at e; omega))
    exact ⟨hne, ⟨⟨C, h1⟩, by rwa [(V.set_ne 0 none hne).2] at hkl⟩⟩
  refine ⟨V.set l' 0 none, M, ⟨?_, by simp [Act.put, ha.size], ha.defers⟩, ?_⟩
  · intro t y hy
    by_cases ht : t = d
    · subst ht
      rw [get_postOf, if_pos rfl] at hy
      injection hy with hy; injection hy with hy; subst hy
      exact ⟨v, by simp [Act.put, ha.size, hd], hx⟩
    · obtain ⟨h1, _, h3⟩ := hold (sl t) _ hy (fun e => ht (sl_inj e)) (sl_ne_bk t l')
      obtain ⟨u, hu, hdu⟩ := ha.slots t y h1
      exact ⟨u, by simp [Act.put, Ne.symm ht, hu], hdu.relab 0 none h3⟩
  · refine { blks := ?_, inj := ?_, sep := ?_, fresh := ?_, bd := ?_, mem := hw.mem, mle := hw.mle, mnew := hw.mnew, keep := ?_, frame := hw.frame }
    · intro l C hC
      by_cases hl : l = l'
      · subst hl
        rw [get_postOf, if_neg (sl_ne_bk d l), if_pos rfl] at hC
        injection hC with hC; injection hC with hC; subst hC
        exact hB
      · obtain ⟨h1, h2, h3⟩ := hold (bk l) _ hC (Ne.symm (sl_ne_bk d l)) (fun e => hl (by unfold bk at e; omega))
        exact (hw.blks l C h1).relab 0 none hl h3 fun _ => rfl
    · intro l m hl hm hne
      obtain ⟨h1, hl'⟩ := hhas l hl
      obtain ⟨h2, hm'⟩ := hhas m hm
      rw [(V.set_ne 0 none h1).1, (V.set_ne 0 none h2).1]
      exact hw.inj l m hl' hm' hne
    · intro l hl o; obtain ⟨h1, hl'⟩ := hhas l hl; rw [(V.set_ne 0 none h1).1]; exact hw.sep l hl' o
    · intro l hl; obtain ⟨h1, hl'⟩ := hhas l hl; rw [(V.set_ne 0 none h1).1]; exact hw.fresh l hl'
    · intro l hl; obtain ⟨h1, hl'⟩ := hhas l hl; rw [(V.set_ne 0 none h1).1]; exact hw.bd l hl'
    · intro l hl
      have hne : l ≠ l' := fun e => hk (e ▸ hl)
      rw [(V.set_ne 0 none hne).1, (V.set_ne 0 none hne).2]
      exact hw.keep l hl

theorem BlkAt.kept {l : Nat} {B : Blk} (h : BlkAt V M w l B) (hw : V.κ l ≠ none → w'.heap[V.ρ l]? = w.heap[V.ρ l]?) : BlkAt V M w' l B := by
  have key : ∀ cs, cellsAt V M w l cs → cellsAt V M w' l cs := fun cs h => by
    obtain ⟨hk, vs, t, hb, hs, hd⟩ := h; exact ⟨hk, vs, t, by rw [hw hk]; exact hb, hs, hd⟩
  cases B with
  | cells cs => exact key cs h
  | data ds => exact key _ h
  | cols n len cs => obtain ⟨hk, vs, t, hb, hs, hr⟩ := h; exact ⟨hk, vs, t, by rw [hw hk]; exact hb, hs, hr⟩
  | app n len cs =>
    obtain ⟨h1, h2, h3⟩ := h
    refine ⟨h1, h2, ?_⟩
    cases hk : V.κ l with
    | none => rw [hk] at h3; exact h3
    | some cap =>
      rw [hk] at h3
      obtain ⟨hc, vs, t, hb, hs, hr⟩ := h3
      exact ⟨hc, vs, t, by rw [hw (by rw [hk]; simp)]; exact hb, hs, hr⟩
  | lp h' ts => exact lpAt.turn h (Mem.le_refl _) ⟨rfl, rfl⟩ (fun _ _ => ⟨rfl, rfl⟩) hw
  | appv cs => exact appvAt.turn h (Mem.le_refl _) ⟨rfl, rfl⟩ (fun _ _ => ⟨rfl, rfl⟩) hw

/-- A write into an owned block. -/
theorem repW_write (hw : RepW E S V M w) {l : Nat} {B B' : Blk} (hl : S.get (bk l) = some (.blk B)) (hkl : V.κ l ≠ none) (hst : WStep w w' (V.ρ l)) (hB : BlkAt V M w' l B') : RepW E (S.upd [(bk l, some (.blk B'))]) V M w' := by
  have hhl : HasB V S l := ⟨⟨B, hl⟩, hkl⟩
  have hhas : ∀ m, HasB V (S.upd [(bk l, some (.blk B'))]) m → HasB V S m := by
    rintro m ⟨⟨C, hC⟩, hkm⟩
    rw [upd_one] at hC
    by_cases h : bk l = bk m
    · have : l = m := by unfold bk at h; omega
      subst this; exact hhl
    · rw [if_neg h] at hC; exact ⟨⟨C, hC⟩, hkm⟩
  refine { blks := ?_, inj := fun m k hm hk' => hw.inj m k (hhas m hm) (hhas k hk'), sep := fun m hm => hw.sep m (hhas m hm), fresh := fun m hm => hw.fresh m (hhas m hm), bd := fun m hm => Nat.lt_of_lt_of_le (hw.bd m (hhas m hm)) hst.size, mem := ?_, mle := hw.mle, mnew := hw.mnew, keep := hw.keep, frame := ?_ }
  · intro m C hC
    rw [upd_one] at hC
    by_cases h : bk l = bk m
    · have : l = m := by unfold bk at h; omega
      subst this
      rw [if_pos rfl] at hC
      injection hC with hC; injection hC with hC; subst hC
      exact hB
    · rw [if_neg h] at hC
      refine (hw.blks m C hC).kept fun hkm => ?_
      have hm : HasB V S m := ⟨⟨C, hC⟩, hkm⟩
      exact hst.other _ (hw.inj m l hm hhl (fun e => h (by rw [e]))) (hw.bd m hm)
  · intro b o u hu
    refine hst.cell (fun e => ?_) (hw.mem b o u hu)
    rw [e, hw.sep l hhl o] at hu; cases hu
  · refine ⟨hst.os.trans hw.frame.os, hst.tape.trans hw.frame.tape, hst.output.trans hw.frame.output, Nat.le_trans hw.frame.size hst.size, fun b hb hp => ?_⟩
    rw [← hw.frame.block b hb hp]
    refine hst.other b (fun e => ?_) (Nat.lt_of_lt_of_le hb hw.frame.size)
    rcases hw.fresh l hhl with h | h
    · omega
    · exact hp (by rw [e]; exact h)
theorem repA_blk (ha : RepA E S V M a) (l : Nat) (B : Blk) : RepA E (S.upd [(bk l, some (.blk B))]) V M a :=
  ⟨fun t x e => by rw [upd_one, if_neg (Ne.symm (sl_ne_bk t l))] at e; exact ha.slots t x e, ha.size, ha.defers⟩
end

/-- A new block. -/
theorem WStep.alloc (w : World) (o : Obj) : WStep w (w.alloc o) w.heap.size :=
  ⟨rfl, rfl, rfl, by show w.heap.size ≤ (w.heap.push o).size; simp, fun b hb hlt => by show (w.heap.push o)[b]? = _; simp [Array.getElem?_push, hb], by show _ < (w.heap.push o).size; simp⟩
theorem WStep.drew {w w' : World} {β : Nat} (h : WStep w w' β) (k : Nat) : WStep w { w' with drawn := k } β := ⟨h.os, h.tape, h.output, h.size, h.other, h.lt⟩
theorem WStep.of_drew {w w' : World} {β : Nat} {k : Nat} (h : WStep { w with drawn := k } w' β) : WStep w w' β := ⟨h.os, h.tape, h.output, h.size, h.other, h.lt⟩
theorem WStep.modify (w : World) (b : Nat) (f : Obj → Obj) (h : b < w.heap.size) : WStep w { w with heap := w.heap.modify b f } b :=
  ⟨rfl, rfl, rfl, by simp, fun c hc hlt => by simp [Array.getElem?_modify, Ne.symm hc], by simpa using h⟩
theorem WStep.trans {w w' w'' : World} {β : Nat} (h : WStep w w' β) (k : WStep w' w'' β) : WStep w w'' β :=
  ⟨k.os.trans h.os, k.tape.trans h.tape, k.output.trans h.output, Nat.le_trans h.size k.size, fun b hb hlt => (k.other b hb (Nat.lt_of_lt_of_le hlt h.size)).trans (h.other b hb hlt), k.lt⟩

end Go.Proofs.Ytcnikeonaklkoaa
