/- A range over a function: the call of yield; a round's contract out of its body's walk; the statement; a function that holds one. No program in sight. -/
import Derived.Test.YtcnikeonaklkoaaDefer
import Derived.RangeFuncIn
import Derived.RangeFuncRecord
import Derived.RangeFuncLeaves
import Derived.RangeFuncSeq
namespace Go.Proofs.Ytcnikeonaklkoaa
open Go
set_option linter.unusedVariables false
set_option linter.unusedSimpArgs false
variable {P : Program} {S : St} {ro : Ro} {ops : Array Oper} {E : Env}

/-! A scope that no jump leads into. -/
def noGotoQ (Q : Exit → Act → World → Prop) : Exit → Act → World → Prop
  | .goto _, _, _ => False
  | e, a, w => Q e a w
section
variable {F : Fence} {n : Nat} {b : Frame} {a : Act} {k : List Go.Item} {cs : List Frame} {w : World}
theorem stepR_scope {c : Code} : step P (lone (b.atR a (.code (.scope c) :: k)) cs w) = .next (lone (b.atR a (.code c :: .inScope c :: k)) cs w) :=
  step_lone_go (by simp [stepG, stepG.exec, Frame.atR])
theorem stepR_inScope {c : Code} : step P (lone (b.atR a (.inScope c :: k)) cs w) = .next (lone (b.atR a k) cs w) :=
  step_lone_go (by simp [stepG, stepG.exec, Frame.atR])
theorem wpIn_scope {c : Code} {Q : Exit → Act → World → Prop} (h : c.wpIn F n P (noGotoQ Q) a w) : (Code.scope c).wpIn F n P Q a w := by
  intro b k cs hro hb hr
  have h0 : (lone (b.atR a (.code (.scope c) :: k)) cs w).fenced P F := fenced_calm hb hr rfl
  obtain ⟨e, a₁, w₁, hq, harr⟩ := h b (.inScope c :: k) cs hro hb hr
  cases e with
  | normal => exact ⟨.normal, a₁, w₁, hq, .head h0 stepR_scope (StepsIn.trans harr (.one (fenced_calm hb hr rfl) stepR_inScope))⟩
  | exit id =>
    have hx : exitTo id (.inScope c :: k) = exitTo id k := by simp [exitTo]
    exact ⟨.exit id, a₁, w₁, hq, fun k' hk => .head h0 stepR_scope (harr.1 k' (by rw [hx]; exact hk)),
      fun hr' hk => let ⟨k₁, h1, h2⟩ := harr.2 hr' (by rw [hx]; exact hk); ⟨k₁, h1, .head h0 stepR_scope h2⟩⟩
  | goto l => exact hq.elim
  | ret => exact ⟨_, a₁, w₁, hq, .of_steps (.one h0 stepR_scope) harr⟩
  | panic ch => exact ⟨_, a₁, w₁, hq, .of_steps (.one h0 stepR_scope) harr⟩
  | outgrown => exact ⟨_, a₁, w₁, hq, .of_steps (.one h0 stepR_scope) harr⟩
end
def scopeQ (Q : Exit → St → Prop) : Exit → St → Prop
  | .goto _, _ => False
  | e, S => Q e S
theorem WPA.scope {c : Code} {S : St} {Q : Exit → St → Prop} (h : WPA P ro E c S (scopeQ Q)) : WPA P ro E (.scope c) S Q := fun a w hr => wpIn_scope (wpIn_mono (h a w hr) fun e a w hp => by
  rcases hp with ⟨S', q, r⟩ | ⟨x, hp, rfl, r⟩
  · cases e with
    | goto l => exact q.elim
    | _ => exact .inl ⟨S', q, r⟩
  · exact .inr ⟨x, hp, rfl, r⟩)

/-! What a call over blocks leaves, but for its result. -/
structure HandedN (S0 : St) (Bs Bs' : St) (keep new ds : List Nat) : Prop where
  odd : ∀ p ∈ Bs, p.1 % 2 = 1
  odd' : ∀ p ∈ Bs', p.1 % 2 = 1
  have_ : ∀ p ∈ Bs, S0.get p.1 = some p.2
  blk : ∀ p ∈ Bs, ∃ B, p.2 = .blk B
  drop : ∀ p ∈ Bs, p.1 ∈ ds
  lab : ∀ p ∈ Bs', p.1 / 2 ∈ new ∨ p.1 / 2 ∈ keep
  kept : ∀ l ∈ keep, l ∉ new
  cell : ∀ p ∈ Bs', contWithin (new ++ keep) p.2 = true
  news : ∀ l ∈ new, bk l ∈ Bs'.map Prod.fst
theorem Handed.n {S0 Bs Bs' : St} {res : AV} {keep new ds : List Nat} (h : Handed S0 Bs Bs' res keep new ds) : HandedN S0 Bs Bs' keep new ds :=
  ⟨h.odd, h.odd', h.have_, h.blk, h.drop, h.lab, h.kept, h.cell, h.news⟩
theorem HandedN.sub {S0 S1 Bs Bs' : St} {keep new ds : List Nat} (h : HandedN S0 Bs Bs' keep new ds) (e : ∀ p ∈ Bs, S1.get p.1 = S0.get p.1) : HandedN S1 Bs Bs' keep new ds :=
  ⟨h.odd, h.odd', fun p hp => (e p hp).trans (h.have_ p hp), h.blk, h.drop, h.lab, h.kept, h.cell, h.news⟩

def passedOf (V : Vals) (Bs : St) : List Nat := ((labs Bs).filter fun l => (V.κ l).isSome).map V.ρ
theorem passed_has {S0 Bs Bs' : St} {keep new ds : List Nat} {V : Vals} (hh : HandedN S0 Bs Bs' keep new ds) : ∀ b ∈ passedOf V Bs, ∃ l, HasB V S0 l ∧ bk l ∈ ds ∧ (∃ B, (bk l, Cont.blk B) ∈ Bs) ∧ V.ρ l = b := by
  intro b hb
  simp only [passedOf, List.mem_map, List.mem_filter, labs] at hb
  obtain ⟨l, ⟨⟨p, hp, rfl⟩, hk⟩, rfl⟩ := hb
  have hodd := hh.odd p hp
  have e : bk (p.1 / 2) = p.1 := by unfold bk; omega
  obtain ⟨B, hBp⟩ := hh.blk p hp
  have h1 := hh.have_ p hp
  rw [hBp] at h1
  refine ⟨p.1 / 2, ⟨⟨B, by rw [e]; exact h1⟩, by cases hx : V.κ (p.1 / 2) <;> simp_all⟩, by rw [e]; exact hh.drop p hp, ⟨B, ?_⟩, rfl⟩
  rw [e, ← hBp]; exact hp
theorem handed_pre {S : St} {Bs Bs' : St} {keep new ds : List Nat} {V : Vals} {M : Mem} {w : World} (hw : RepW E S V M w) (hh : HandedN S Bs Bs' keep new ds) : RepW (.of w (passedOf V Bs) M V keep 0) Bs V M w := by
  have hget : ∀ l B, Bs.get (bk l) = some (.blk B) → S.get (bk l) = some (.blk B) := fun l B e => hh.have_ _ (St.mem_of_get e)
  have hB : ∀ l, HasB V Bs l → HasB V S l := fun l ⟨⟨B, e⟩, k⟩ => ⟨⟨B, hget l B e⟩, k⟩
  exact
    { blks := fun l B e => hw.blks l B (hget l B e), inj := fun l l' a b => hw.inj l l' (hB l a) (hB l' b), sep := fun l a => hw.sep l (hB l a)
      fresh := fun l a => .inr (by
        obtain ⟨⟨B, e⟩, k⟩ := a
        have hm := St.mem_of_get e
        simp only [passedOf, List.mem_map, List.mem_filter, labs]
        exact ⟨l, ⟨⟨_, hm, by unfold bk; omega⟩, by cases hx : V.κ l <;> simp_all⟩, rfl⟩)
      bd := fun l a => hw.bd l (hB l a)
      mem := hw.mem, mle := Mem.le_refl M, mnew := fun b o h => .inl h, keep := fun l hl => ⟨rfl, rfl⟩, frame := ⟨rfl, rfl, rfl, Nat.le_refl _, fun _ _ _ => rfl⟩ }

abbrev postN (ds : List Nat) (Bs' : St) : List (Nat × Option Cont) := delsOf ds ++ somes Bs'
theorem get_postN (S : St) (ds : List Nat) (Bs' : St) (n : Nat) : (S.upd (postN ds Bs')).get n = match Bs'.get n with | some c => some c | none => if n ∈ ds then none else S.get n := by
  rw [St.get_upd, lastOf_append, lastOf_dels, somes_eq, lastOf_back]
  cases Bs'.get n <;> rfl

theorem called_rep {S : St} {Bs Bs' : St} {keep new ds : List Nat} {V V' : Vals} {M M' : Mem} {a : Act} {w w' : World} (ha : RepA E S V M a) (hw : RepW E S V M w) (hh : HandedN S Bs Bs' keep new ds)
    (hfr : ∀ l ∈ new, ∀ n c, S.get n = some c → n ∉ ds → n ∉ Bs'.map Prod.fst → ¬ CMent c l) (hne : ∀ l ∈ new, l ∉ E.keep) (hw' : RepW (.of w (passedOf V Bs) M V keep 0) Bs' V' M' w') :
    ∃ Vn, RepA E (S.upd (postN ds Bs')) Vn M' a ∧ RepW E (S.upd (postN ds Bs')) Vn M' w' ∧ ∀ l ∈ new ++ keep, Vn.ρ l = V'.ρ l ∧ Vn.κ l = V'.κ l := by
  have hf := hw'.frame
  let Vn : Vals := ⟨fun l => if l ∈ new then V'.ρ l else V.ρ l, fun l => if l ∈ new then V'.κ l else V.κ l⟩
  have hVold : ∀ l, l ∉ new → Vn.ρ l = V.ρ l ∧ Vn.κ l = V.κ l := fun l hl => by simp [Vn, hl]
  have hVnew : ∀ l, l ∈ new ++ keep → Vn.ρ l = V'.ρ l ∧ Vn.κ l = V'.κ l := fun l hl => by
    by_cases h : l ∈ new
    · simp [Vn, h]
    · have hk : l ∈ keep := by simpa [h] using hl
      have := hw'.keep l hk
      simp only [Vn, h, if_false]
      exact ⟨this.1.symm, this.2.symm⟩
  let T := S.upd (postN ds Bs')
  have hT : ∀ n, T.get n = match Bs'.get n with | some c => some c | none => if n ∈ ds then none else S.get n := get_postN S ds Bs'
  have hodd' : ∀ n c, Bs'.get n = some c → n % 2 = 1 := fun n c e => hh.odd' _ (St.mem_of_get e)
  have hnone : ∀ {n : Nat}, Bs'.get n = none → n ∉ Bs'.map Prod.fst := by
    intro n hn hm
    obtain ⟨p, hp, rfl⟩ := List.mem_map.1 hm
    have key : ∀ B : St, p ∈ B → B.get p.1 ≠ none := by
      intro B
      induction B with
      | nil => intro h; cases h
      | cons q r ih =>
        intro h
        rw [show (q :: r : St) = (q.1, q.2) :: r from rfl, get_cons]
        rcases List.mem_cons.1 h with rfl | h
        · simp
        · split
          · simp
          · exact ih h
    exact key Bs' hp hn
  have hold : ∀ n c, Bs'.get n = none → n ∉ ds → S.get n = some c → ∀ l, l ∈ new → ¬ CMent c l := fun n c h2 h3 h4 l hl => hfr l hl n c h4 h3 (hnone h2)
  have hcases : ∀ l B, T.get (bk l) = some (.blk B) → (Bs'.get (bk l) = some (.blk B) ∧ l ∈ new ++ keep) ∨ (Bs'.get (bk l) = none ∧ bk l ∉ ds ∧ S.get (bk l) = some (.blk B)) := fun l B e => by
    rw [hT] at e
    cases hb : Bs'.get (bk l) with
    | some c =>
      rw [hb] at e
      simp only at e
      have := hh.lab _ (St.mem_of_get hb)
      have hl2 : bk l / 2 = l := by unfold bk; omega
      simp only [hl2] at this
      exact .inl ⟨e, by simpa using this⟩
    | none =>
      rw [hb] at e
      simp only at e
      by_cases hd : bk l ∈ ds
      · rw [if_pos hd] at e; cases e
      · rw [if_neg hd] at e; exact .inr ⟨rfl, hd, e⟩
  have hnn : ∀ l B, Bs'.get (bk l) = none → S.get (bk l) = some (.blk B) → l ∉ new := fun l B h1 _ hl => hnone h1 (hh.news l hl)
  have hHas : ∀ l, HasB Vn T l → (HasB V' Bs' l ∧ Vn.ρ l = V'.ρ l) ∨ (HasB V S l ∧ bk l ∉ ds ∧ Vn.ρ l = V.ρ l) := fun l ⟨⟨B, e⟩, k⟩ => by
    rcases hcases l B e with ⟨h1, h2⟩ | ⟨h1, h2, h3⟩
    · have := hVnew l h2
      exact .inl ⟨⟨⟨B, h1⟩, by rw [← this.2]; exact k⟩, this.1⟩
    · have := hVold l (hnn l B h1 h3)
      exact .inr ⟨⟨⟨B, h3⟩, by rw [← this.2]; exact k⟩, h2, this.1⟩
  have hfin : ∀ l, HasB V S l → bk l ∉ ds → V.ρ l ∉ passedOf V Bs := fun l hl hd hp => by
    obtain ⟨l', h1, h2, _, h3⟩ := passed_has hh _ hp
    by_cases e : l' = l
    · exact hd (e ▸ h2)
    · exact hw.inj l' l h1 hl e h3
  have hsz : ∀ l, HasB V' Bs' l → w.heap.size ≤ V'.ρ l ∨ V'.ρ l ∈ passedOf V Bs := fun l hl => hw'.fresh l hl
  have hapart : ∀ l l', HasB V' Bs' l → HasB V S l' → bk l' ∉ ds → V'.ρ l ≠ V.ρ l' := fun l l' h1 h2 h3 e => by
    rcases hsz l h1 with h | h
    · have := hw.bd l' h2; omega
    · exact hfin l' h2 h3 (e ▸ h)
  refine ⟨Vn, ⟨fun s x hx => ?_, ha.size, ha.defers⟩, ?_, hVnew⟩
  · have hx : T.get (sl s) = some (.av x) := hx
    rw [hT] at hx
    have hbn : Bs'.get (sl s) = none := by
      cases hb : Bs'.get (sl s) with
      | none => rfl
      | some c => have := hodd' _ _ hb; unfold sl at this; omega
    rw [hbn] at hx
    simp only at hx
    by_cases hd : sl s ∈ ds
    · rw [if_pos hd] at hx; cases hx
    · rw [if_neg hd] at hx
      obtain ⟨u, hu, hdu⟩ := ha.slots s x hx
      exact ⟨u, hu, hdu.mono hw'.mle fun l hl => hVold l fun hn => hold (sl s) _ hbn hd hx l hn hl⟩
  · exact
    { blks := fun l B e => by
        rcases hcases l B e with ⟨h1, h2⟩ | ⟨h1, h2, h3⟩
        · have hm := hh.cell _ (St.mem_of_get h1)
          exact (hw'.blks l B h1).turn (Mem.le_refl _) (hVnew l h2) (fun l' hl' => hVnew l' (by
            cases hl' with
            | cells cs x _ hx hmx => exact within_ment hmx (withins_mem hm hx)
            | lp h' ts p _ hx hmx => exact within_ment hmx (slotsWithin_mem hm hx)
            | appv cs x _ hx hmx => exact within_ment hmx (withins_mem hm hx))) (fun _ => rfl)
        · have hln := hnn l B h1 h3
          exact (hw.blks l B h3).turn hw'.mle (hVold l hln) (fun l' hl' => hVold l' fun hn => hold (bk l) _ h1 h2 h3 l' hn hl') (fun hk => hf.block _ (hw.bd l ⟨⟨B, h3⟩, hk⟩) (hfin l ⟨⟨B, h3⟩, hk⟩ h2))
      inj := fun l l' h1 h2 hne => by
        rcases hHas l h1 with ⟨a1, a2⟩ | ⟨a1, a2, a3⟩
        · rcases hHas l' h2 with ⟨b1, b2⟩ | ⟨b1, b2, b3⟩
          · rw [a2, b2]; exact hw'.inj l l' a1 b1 hne
          · rw [a2, b3]; exact hapart l l' a1 b1 b2
        · rcases hHas l' h2 with ⟨b1, b2⟩ | ⟨b1, b2, b3⟩
          · rw [a3, b2]; exact (hapart l' l b1 a1 a2).symm
          · rw [a3, b3]; exact hw.inj l l' a1 b1 hne
      sep := fun l h1 o => by
        rcases hHas l h1 with ⟨a1, a2⟩ | ⟨a1, a2, a3⟩
        · rw [a2]; exact hw'.sep l a1 o
        · rw [a3]
          cases hc : M' (V.ρ l) o with
          | none => rfl
          | some u =>
            rcases hw'.mnew (V.ρ l) o (by rw [hc]; simp) with h | h | h
            · exact absurd (hw.sep l a1 o) h
            · have := hw.bd l a1
              have h : w.heap.size ≤ V.ρ l := h
              omega
            · exact absurd h (hfin l a1 a2)
      fresh := fun l h1 => by
        rcases hHas l h1 with ⟨a1, a2⟩ | ⟨a1, a2, a3⟩
        · rw [a2]
          rcases hsz l a1 with h | h
          · exact .inl (Nat.le_trans hw.frame.size h)
          · obtain ⟨l', hl', _, _, he⟩ := passed_has hh _ h
            rw [← he]
            exact hw.fresh l' hl'
        · rw [a3]; exact hw.fresh l a1
      bd := fun l h1 => by
        rcases hHas l h1 with ⟨a1, a2⟩ | ⟨a1, a2, a3⟩
        · rw [a2]; exact hw'.bd l a1
        · rw [a3]; exact Nat.lt_of_lt_of_le (hw.bd l a1) hf.size
      mem := hw'.mem
      mle := Mem.le_trans hw.mle hw'.mle
      mnew := fun b o h => by
        rcases hw'.mnew b o h with h | h | h
        · exact hw.mnew b o h
        · have h : w.heap.size ≤ b := h
          exact .inr (.inl (Nat.le_trans hw.frame.size h))
        · obtain ⟨l', hl', _, _, he⟩ := passed_has hh _ h
          rw [← he]
          rcases hw.fresh l' hl' with h | h
          · exact .inr (.inl h)
          · exact .inr (.inr h)
      keep := fun l hl => by
        have hn : l ∉ new := fun h => hne l h hl
        have := hVold l hn
        rw [this.1, this.2]
        exact hw.keep l hl
      frame := ⟨hf.os.trans hw.frame.os, hf.tape.trans hw.frame.tape, hf.output.trans hw.frame.output, Nat.le_trans hw.frame.size hf.size, fun b hb hp => (hf.block b (Nat.lt_of_lt_of_le hb hw.frame.size) (fun h => by
        obtain ⟨l', hl', _, _, he⟩ := passed_has hh _ h
        rcases hw.fresh l' hl' with h | h
        · omega
        · exact hp (he ▸ h))).trans (hw.frame.block b hb hp)⟩ }

/-! A call whose callee takes blocks over, also under a guard that holds. -/
theorem axOp_callG {S0 : St} {o : Oper} {t : Nat} {res : AV} {Bs Bs' : St} {keep new ds gs : List Nat} (hdst : o.dst = some t) (hgd : guardIn ops S0 o = some (gs, true))
    (hwp : ∀ (V : Vals) (M : Mem) (a : Act) (w : World) (K : Act → World → Prop) (Q : Exit → Act → World → Prop), (∀ x ∈ o.op.operands, ∀ y, Ev S0 true x y → Den V M y (a.eval x)) → RepW (.of w (passedOf V Bs) M V keep 0) Bs V M w →
      (∀ v V' M' w', Den V' M' res v → RepW (.of w (passedOf V Bs) M V keep 0) Bs' V' M' w' → K (a.put (some t) v) w') → o.wpIn (FW ro) 0 P a w K Q)
    (hh : Handed S0 Bs Bs' res keep new ds) : AxOp P ro ops o ⟨opNames o ++ gs ++ delsA Bs, S0, postCall ds Bs' t (wrapGd o true res), new⟩ := by
  intro E S a w hag hfr hok ⟨V, M, ha, hw⟩ Q hpn
  have ht : t < E.nt := hok.2 t (names_postCall.2 (.inr (.inr rfl)))
  have hwant := wanted_of (E := E) hag hgd (fun n hn => by simp [hn]) ha
  unfold stepIn
  rw [if_pos hwant]
  have hgiv := (given_of (bl := []) hag (fun n hn => by simp [hn]) (fun l hl => by cases hl) rfl ha hw : Given E S0 o [] true V M a w)
  have hhS : HandedN S Bs Bs' keep new (sl t :: ds) := by
    have h := hh.n.sub (S1 := S) fun p hp => hag p.1 (by simp only [delsA, keysOf_eq, List.mem_append, List.mem_map]; exact .inr ⟨_, hp, rfl⟩)
    exact { odd := h.odd, odd' := h.odd', have_ := h.have_, blk := h.blk, drop := fun p hp => by simp [h.drop p hp], lab := h.lab, kept := h.kept, cell := h.cell, news := h.news }
  refine hwp V M a w _ _ hgiv.opd (handed_pre hw hhS) ?_
  intro v V' M' w' hdv hw'
  obtain ⟨Vn, hA, hW, hV⟩ := called_rep ha hw hhS (fun l hl n c hc h1 h2 => hfr l hl n c hc fun h => by
    rcases names_postCall.1 h with h | h | h
    · exact h1 (by simp [h])
    · exact h2 h
    · exact h1 (by simp [h])) (fun l hl hk => hok.1 l hl hk) hw'
  have hdn : Den Vn M' res v := hdv.relab2 fun l hl => hV l (within_ment hl hh.res)
  have hdn' : Den Vn M' (wrapGd o true res) v := by
    unfold wrapGd
    split
    · exact hdn
    · exact .gd _ _ _ (fun _ => hdn) (fun h => by cases h)
  have h : Rep E ((S.upd (postN (sl t :: ds) Bs')).upd [(sl t, some (.av (wrapGd o true res)))]) (a.put (some t) v) w' := ⟨Vn, M', repA_slot hA t _ v ht hdn', repW_slot hW t _⟩
  refine Rep.weaken h fun n c e => ?_
  rw [upd_one, get_postN]
  rw [get_postCall] at e
  by_cases hn : sl t = n
  · rw [if_pos hn] at e ⊢; exact e
  · rw [if_neg hn] at e ⊢
    cases hb : Bs'.get n with
    | some c' => rw [hb] at e; exact e
    | none =>
      rw [hb] at e
      simp only at e ⊢
      by_cases hd : n ∈ ds
      · rw [if_pos hd] at e; cases e
      · rw [if_neg hd] at e
        rw [if_neg (by simp [hd, Ne.symm hn])]; exact e

/-- A round: yield, called with these values over these blocks. -/
def YSpec (P : Program) (L : Nat) (args : List AV) (Bs : St) (res : AV) (Bs' : St) (keep : List Nat) : Prop :=
  ∀ (V : Vals) (M : Mem) (w : World) (passed : List Nat) (vs : List Value), RepW (.of w passed M V keep 0) Bs V M w → DenL V M args vs →
    YieldAt Fence.wide 0 P (V.ρ L) vs.toArray w fun e w' => ∃ v V' M', e = .returned v ∧ Den V' M' res v ∧ RepW (.of w passed M V keep 0) Bs' V' M' w'

structure YieldArgs (S : St) (cl : Call) (L : Nat) (args : List AV) : Prop where
  out : ∃ (f : Operand), cl.callee = .value f ∧ Ev S true f (.yld L) ∧ args.length = cl.args.size ∧ ∀ (j : Nat) (x : Operand) (y : AV), cl.args[j]? = some x → args[j]? = some y → Ev S true x y

theorem yieldArgs {S : St} {f : Operand} {l : List Operand} {ts : Array TypeId} {L : Nat} {xs : List AV} (hf : Ev S true f (.yld L)) (h : EvAll S true l xs) : YieldArgs S ⟨.value f, l.toArray, ts⟩ L xs :=
  ⟨f, rfl, hf, by simpa using h.at'.1, fun j x y hx hy => h.at'.2 j x y (by simpa using hx) hy⟩

theorem Trace.cyG {S0 S' : St} {cl : Call} {ty : TypeId} {pos : String} {af : Array Edge} {gd : Option (Nat × Bool)} {r : List Oper} {L : List Ax} {t LL : Nat} {args : List AV} {res : AV} {Bs Bs' : St} {keep gs : List Nat} (new ds : List Nat) (hca : YieldArgs S0 cl LL args) (hs : YSpec P LL args Bs res Bs' keep)
    (hgd : guardIn ops S0 ⟨some t, .call cl, ty, pos, af, gd⟩ = some (gs, true))
    (hv : Haves S0 Bs) (hh : handedB S0 Bs Bs' res keep new ds = true) (hf : freshB ⟨opNames ⟨some t, .call cl, ty, pos, af, gd⟩ ++ gs ++ delsA Bs, S0, postCall ds Bs' t (wrapGd ⟨some t, .call cl, ty, pos, af, gd⟩ true res), new⟩ S0 = true)
    (h : Trace P ro ops r (S0.called ds Bs' t (wrapGd ⟨some t, .call cl, ty, pos, af, gd⟩ true res)) L S') :
    Trace P ro ops (⟨some t, .call cl, ty, pos, af, gd⟩ :: r) S0 (⟨opNames ⟨some t, .call cl, ty, pos, af, gd⟩ ++ gs ++ delsA Bs, S0, postCall ds Bs' t (wrapGd ⟨some t, .call cl, ty, pos, af, gd⟩ true res), new⟩ :: L) S' := by
  refine .cons (axOp_callG rfl hgd ?_ (handed_of hv hh)) (fun _ _ => rfl) (fresh_of hf) (called_upd _ _ _ _ _) h
  intro V M a w K Q hop hw hk
  obtain ⟨f, hcf, hef, hl, he⟩ := hca.out
  have hfo : f ∈ (Op.call cl).operands := by simp [Op.operands, Call.operands, hcf]
  have h1 := hop f hfo _ hef
  have hargs : DenL V M args (cl.args.toList.map a.eval) := ⟨by simpa using hl, fun j x y hx hy => by
    simp only [List.getElem?_map, Option.map_eq_some_iff] at hy
    obtain ⟨z, hz, rfl⟩ := hy
    have hz' : cl.args[j]? = some z := by simpa using hz
    refine hop z ?_ _ (he j z x hz' hx)
    simp only [Op.operands, Call.operands, Array.mem_append]
    exact .inr (Array.mem_of_getElem? hz')⟩
  generalize hv : a.eval f = v at h1
  cases h1 with
  | yld _ =>
    obtain ⟨fn, tmps, assign, body, hy, hR⟩ := hs V M w _ _ hw hargs
    have hr : (execOp a.eval ⟨some t, .call cl, ty, pos, af, gd⟩).run P w = .ok (.round (V.ρ LL) fn tmps assign body) w := by
      have hmap : ∀ f : Operand → Value, (cl.args.toList.map f).toArray = cl.args.map f := fun f => by
        rw [← List.map_toArray, Array.toArray_toList]
      rw [hmap] at hy
      generalize a.eval = ρ at *
      simp only [execOp, resolve, hcf, hv, Deferred.ofValue, Sem.run_bind, Sem.run_pure, Result.andThen, Array.empty_append, invoke]
      first | exact hy | (simp only [Array.append_empty]; exact hy)
    refine ⟨about_fw _ a w, ?_⟩
    rw [Oper.semAt_eq _ _ _ (fun d h => by cases h), hr, Oper.uponIn_round]
    refine ⟨fw_depth ro 0, ?_⟩
    have hR' : RoundIn (FW ro) 0 P (V.ρ LL) fn tmps assign body w _ := hR
    refine hR'.mono ?_
    rintro e w' ⟨v, V', M', rfl, hdv, hw'⟩
    exact hk v V' M' w' hdv hw'

/-! Steps beside the blocks of ours; a block more. -/
theorem WStep.put {w : World} {r : Nat} (o : Obj) (h : r < w.heap.size) : WStep w (w.putObj r o) r :=
  ⟨rfl, rfl, rfl, by simp, fun b hb _ => World.putObj_heap_other hb, by simpa using h⟩
theorem RepW.beside {S : St} {V : Vals} {M : Mem} {w w' : World} {r : Nat} (h : RepW E S V M w) (hst : WStep w w' r) (hr : ∀ l, HasB V S l → V.ρ l ≠ r) (hM : ∀ o, M r o = none) (hE : E.w0.heap.size ≤ r ∨ r ∈ E.passed) : RepW E S V M w' :=
  { blks := fun l B e => (h.blks l B e).kept fun hk => hst.other _ (hr l ⟨⟨B, e⟩, hk⟩) (h.bd l ⟨⟨B, e⟩, hk⟩)
    inj := h.inj, sep := h.sep, fresh := h.fresh, bd := fun l hl => Nat.lt_of_lt_of_le (h.bd l hl) hst.size
    mem := fun b o v hv => hst.cell (fun e => by rw [e, hM o] at hv; cases hv) (h.mem b o v hv)
    mle := h.mle, mnew := h.mnew, keep := h.keep
    frame := ⟨hst.os.trans h.frame.os, hst.tape.trans h.frame.tape, hst.output.trans h.frame.output, Nat.le_trans h.frame.size hst.size, fun b hb hp => (hst.other b (fun e => by
      rcases hE with h | h
      · omega
      · exact hp (e ▸ h)) (Nat.lt_of_lt_of_le hb h.frame.size)).trans (h.frame.block b hb hp)⟩ }
theorem RepW.turned {S : St} {V : Vals} {M : Mem} {w w' : World} {r : Nat} (h : RepW E S V M w) (hst : WStep w w' r) (hr : ∀ l, HasB V S l → V.ρ l ≠ r) (hM : ∀ o, M r o = none) (ds : List Deferred) : RepW (E.at_ S V M w' ds) S V M w' :=
  { blks := fun l B e => (h.blks l B e).kept fun hk => hst.other _ (hr l ⟨⟨B, e⟩, hk⟩) (h.bd l ⟨⟨B, e⟩, hk⟩)
    inj := h.inj, sep := h.sep, fresh := fun l hl => .inr (mem_lives.2 ⟨l, hl, rfl⟩), bd := fun l hl => Nat.lt_of_lt_of_le (h.bd l hl) hst.size
    mem := fun b o v hv => hst.cell (fun e => by rw [e, hM o] at hv; cases hv) (h.mem b o v hv)
    mle := Mem.le_refl M, mnew := fun b o h => .inl h, keep := fun l _ => ⟨rfl, rfl⟩, frame := ⟨rfl, rfl, rfl, Nat.le_refl _, fun _ _ _ => rfl⟩ }
theorem RepW.add {S T : St} {V : Vals} {M : Mem} {w : World} {L : Nat} {B : Blk} (h : RepW E S V M w) (hT : ∀ l C, T.get (bk l) = some (.blk C) → l ≠ L → S.get (bk l) = some (.blk C)) (hTL : ∀ C, T.get (bk L) = some (.blk C) → C = B) (hB : BlkAt V M w L B) (hin : ∀ l, l ≠ L → HasB V S l → V.ρ l ≠ V.ρ L)
    (hs : ∀ o, M (V.ρ L) o = none) (hf : E.w0.heap.size ≤ V.ρ L ∨ V.ρ L ∈ E.passed) (hb : V.ρ L < w.heap.size) : RepW E T V M w := by
  have hc : ∀ l, HasB V T l → l ≠ L → HasB V S l := fun l ⟨⟨C, e⟩, k⟩ hne => ⟨⟨C, hT l C e hne⟩, k⟩
  exact
    { blks := fun l C e => by
        by_cases hl : l = L
        · subst hl; rw [hTL C e]; exact hB
        · exact h.blks l C (hT l C e hl)
      inj := fun l l' h1 h2 hne => by
        by_cases a : l = L
        · subst a; exact (hin l' (Ne.symm hne) (hc l' h2 (Ne.symm hne))).symm
        · by_cases b : l' = L
          · subst b; exact hin l a (hc l h1 a)
          · exact h.inj l l' (hc l h1 a) (hc l' h2 b) hne
      sep := fun l h1 o => by
        by_cases a : l = L
        · subst a; exact hs o
        · exact h.sep l (hc l h1 a) o
      fresh := fun l h1 => by
        by_cases a : l = L
        · subst a; exact hf
        · exact h.fresh l (hc l h1 a)
      bd := fun l h1 => by
        by_cases a : l = L
        · subst a; exact hb
        · exact h.bd l (hc l h1 a)
      mem := h.mem, mle := h.mle, mnew := h.mnew, keep := h.keep, frame := h.frame }
theorem RepW.relabel {S : St} {V : Vals} {M : Mem} {w : World} {L : Nat} (b : Nat) (k : Option Nat) (h : RepW E S V M w) (hL : S.get (bk L) = none) (hf : ∀ n c, S.get n = some c → ¬ CMent c L) (hk : L ∉ E.keep) : RepW E S (V.set L b k) M w := by
  have hn : ∀ l B, S.get (bk l) = some (.blk B) → l ≠ L := fun l B e he => by subst he; rw [hL] at e; cases e
  have hh : ∀ l, HasB (V.set L b k) S l → HasB V S l ∧ (V.set L b k).ρ l = V.ρ l := fun l ⟨⟨B, e⟩, hk⟩ => by
    have := V.set_ne b k (hn l B e)
    exact ⟨⟨⟨B, e⟩, by rw [← this.2]; exact hk⟩, this.1⟩
  exact
    { blks := fun l B e => (h.blks l B e).relab b k (hn l B e) (hf _ _ e) fun _ => rfl
      inj := fun l l' h1 h2 hne => by rw [(hh l h1).2, (hh l' h2).2]; exact h.inj l l' (hh l h1).1 (hh l' h2).1 hne
      sep := fun l h1 o => by rw [(hh l h1).2]; exact h.sep l (hh l h1).1 o
      fresh := fun l h1 => by rw [(hh l h1).2]; exact h.fresh l (hh l h1).1
      bd := fun l h1 => by rw [(hh l h1).2]; exact h.bd l (hh l h1).1
      mem := h.mem, mle := h.mle, mnew := h.mnew
      keep := fun l hl => by
        have := V.set_ne b k (fun e => hk (e ▸ hl) : l ≠ L)
        rw [this.1, this.2]; exact h.keep l hl
      frame := h.frame }

/-! A round, out of its body's walk. -/
def roundSlots (ps : List Tmp) (xs : List AV) (S : St) : St := (ps.zip xs).foldl (fun S p => (sl p.1, .av p.2) :: S) S
def slotsT : List (Nat × AV) → St
  | [] => []
  | p :: r => (sl p.1, .av p.2) :: slotsT r
theorem slotsT_bk (ts : List (Nat × AV)) (m : Nat) : (slotsT ts).get (bk m) = none := by
  induction ts with
  | nil => rfl
  | cons p r ih => simp only [slotsT]; rw [get_cons, if_neg (sl_ne_bk p.1 m)]; exact ih
theorem slotsT_mem {ts : List (Nat × AV)} {t : Nat} {x : AV} (h : (slotsT ts).get (sl t) = some (.av x)) : (t, x) ∈ ts := by
  induction ts with
  | nil => cases h
  | cons p r ih =>
    simp only [slotsT] at h
    rw [get_cons] at h
    by_cases hp : sl p.1 = sl t
    · rw [if_pos hp] at h
      injection h with h; injection h with h
      have := sl_inj hp
      subst this; subst h
      exact List.mem_cons_self ..
    · rw [if_neg hp] at h
      exact List.mem_cons_of_mem _ (ih h)
theorem roundSlots_bk : ∀ (ps : List Tmp) (xs : List AV) (S : St) (m : Nat), (roundSlots ps xs S).get (bk m) = S.get (bk m)
  | [], xs, S, m => rfl
  | p :: ps, [], S, m => rfl
  | p :: ps, x :: xs, S, m => by
    show (roundSlots ps xs ((sl p, .av x) :: S)).get (bk m) = _
    rw [roundSlots_bk ps xs _ m, get_cons, if_neg (sl_ne_bk p m)]
theorem roundSlots_den {V : Vals} {M : Mem} {nt : Nat} : ∀ (ps : List Tmp) (xs : List AV) (vs : List Value) (S : St) (tmps : Array Value), DenL V M xs vs → tmps.size = nt → (∀ p ∈ ps, p < nt) → (∀ t x, S.get (sl t) = some (.av x) → ∃ v, tmps[t]? = some v ∧ Den V M x v) →
    ((ps.zip vs).foldl (fun t (p : Tmp × Value) => t.setIfInBounds p.1 p.2) tmps).size = nt ∧
    ∀ t x, (roundSlots ps xs S).get (sl t) = some (.av x) → ∃ v, ((ps.zip vs).foldl (fun t (p : Tmp × Value) => t.setIfInBounds p.1 p.2) tmps)[t]? = some v ∧ Den V M x v
  | [], xs, vs, S, tmps, hd, hs, hp, h => ⟨hs, h⟩
  | p :: ps, [], vs, S, tmps, hd, hs, hp, h => by
    have : vs = [] := List.eq_nil_of_length_eq_zero (by rw [← hd.len]; rfl)
    subst this
    exact ⟨hs, h⟩
  | p :: ps, x :: xs, [], S, tmps, hd, hs, hp, h => absurd hd.len (by simp)
  | p :: ps, x :: xs, v :: vs, S, tmps, hd, hs, hp, h => by
    refine roundSlots_den ps xs vs ((sl p, .av x) :: S) (tmps.setIfInBounds p v) ⟨by have := hd.len; simpa using this, fun j a b ha hb => hd.at' (j + 1) a b (by simpa using ha) (by simpa using hb)⟩ (by simpa using hs) (fun q hq => hp q (by simp [hq])) ?_
    intro t y e
    rw [get_cons] at e
    by_cases ht : sl p = sl t
    · have := sl_inj ht
      subst this
      rw [if_pos rfl] at e
      injection e with e; injection e with e; subst e
      exact ⟨v, by simp [hs, hp p (by simp)], hd.at' 0 x v rfl rfl⟩
    · rw [if_neg ht] at e
      obtain ⟨u, hu, hdu⟩ := h t y e
      exact ⟨u, by rw [Array.getElem?_setIfInBounds_ne (fun e => ht (by rw [e]))]; exact hu, hdu⟩

def outOf : Exit → Option (Option Code)
  | .normal => some none
  | .ret => some (some .ret)
  | .exit id => some (some (.exit id))
  | .goto t => some (some (.goto t))
  | _ => none
abbrev LH.out (h : LH) (pe : Option Code) : LH := { h with st := if pe.isNone then .ready else .done, pe := pe }

theorem ySpec_of {L : Nat} {h : LH} {ts : List (Nat × AV)} {xs : List AV} {Cs Cs' S1 : St} {keep : List Nat} {pe : Option Code} (hst : h.st = .ready) (hx : xs.length = h.ps.size) (hps : h.ps.toList.all (fun p => Nat.blt p h.nt) = true)
    (hC : blocksOnly Cs = true) (hCL : allKeys (fun n => !Nat.beq n (bk L)) Cs = true) (hL : memB L keep = true) (hts : slotsWithin keep ts = true) (hCL' : allKeys (fun n => !Nat.beq n (bk L)) Cs' = true)
    (ha : ∀ (E : Env) (l : Nat), E.keep = keep → E.nt = h.nt → WPA P { round := some l } E h.assign (roundSlots h.ps.toList xs (slotsT ts ++ Cs)) fun e S' => e = .normal ∧ S1.le S')
    (hb : ∀ (E : Env) (l : Nat), E.keep = keep → E.nt = h.nt → WPA P { round := some l } E h.body S1 fun e S' => outOf e = some pe ∧ ∀ m B, Cs'.get (bk m) = some (.blk B) → S'.get (bk m) = some (.blk B)) :
    YSpec P L xs ((bk L, .blk (.lp h ts)) :: Cs) (.d (.v (.bool pe.isNone))) ((bk L, .blk (.lp (h.out pe) ts)) :: Cs') keep := by
  intro V M w passed vs hw hd
  have hLk : L ∈ keep := memB_iff.1 hL
  have hgL : St.get ((bk L, .blk (.lp h ts)) :: Cs) (bk L) = some (.blk (.lp h ts)) := by rw [get_cons, if_pos rfl]
  obtain ⟨hk, fn, tmps, d, hheap, hsz, htsd⟩ := hw.blks L _ hgL
  have hHL : HasB V ((bk L, .blk (.lp h ts)) :: Cs) L := ⟨⟨_, hgL⟩, hk⟩
  have hnoL : ∀ {T : St}, allKeys (fun n => !Nat.beq n (bk L)) T = true → T.get (bk L) = none := fun {T} hT => by
    cases hc : T.get (bk L) with
    | none => rfl
    | some c => have := allKeys_mem hT _ (St.mem_of_get hc); simp [nbeq] at this
  have hget : ∀ l B, Cs.get (bk l) = some (.blk B) → St.get ((bk L, .blk (.lp h ts)) :: Cs) (bk l) = some (.blk B) := fun l B e => by
    rw [get_cons]
    by_cases hl : bk L = bk l
    · rw [← hl, hnoL hCL] at e; cases e
    · rw [if_neg hl]; exact e
  have hHC : ∀ l, HasB V Cs l → HasB V ((bk L, .blk (.lp h ts)) :: Cs) l ∧ l ≠ L := fun l ⟨⟨B, e⟩, k⟩ => ⟨⟨⟨B, hget l B e⟩, k⟩, fun he => by subst he; rw [hnoL hCL] at e; cases e⟩
  have hwC : RepW (.of w passed M V keep 0) Cs V M w := hw.blks_only hget
  have hrl : V.ρ L < w.heap.size := hw.bd L hHL
  have hrp : V.ρ L ∈ passed := by
    rcases hw.fresh L hHL with h | h
    · have h : w.heap.size ≤ V.ρ L := h
      omega
    · exact h
  have hn0 : ∀ l, HasB V Cs l → V.ρ l ≠ V.ρ L := fun l hl => hw.inj l L (hHC l hl).1 hHL (hHC l hl).2
  have hM0 : ∀ o, M (V.ρ L) o = none := hw.sep L hHL
  have hpl : ∀ p ∈ h.ps.toList, p < h.nt := fun p hp => by
    have := List.all_eq_true.1 hps p hp
    exact Nat.le_of_ble_eq_true this
  have hvl : vs.length = h.ps.size := by rw [← hd.len]; exact hx
  obtain ⟨hz, hsl⟩ := roundSlots_den (V := V) (M := M) (nt := h.nt) h.ps.toList xs vs (slotsT ts ++ Cs) tmps hd hsz hpl (fun t x e => by
    rw [St.get_append] at e
    cases hg : (slotsT ts).get (sl t) with
    | some c =>
      rw [hg] at e
      injection e with e; subst e
      exact htsd _ (slotsT_mem hg)
    | none =>
      rw [hg] at e
      have := odd_of hC _ _ e
      unfold sl at this; omega)
  have hfold : (h.ps.zip vs.toArray).foldl (fun tmps (t, a) => tmps.setIfInBounds t a) tmps = (h.ps.toList.zip vs).foldl (fun t (p : Tmp × Value) => t.setIfInBounds p.1 p.2) tmps := by
    rw [← Array.foldl_toList]
    simp
  refine ⟨fn, _, h.assign, h.body, run_yield hheap (by simpa using hvl), roundIn_of_wpIn trivial ?_⟩
  simp only [hfold]
  generalize (h.ps.toList.zip vs).foldl (fun t (p : Tmp × Value) => t.setIfInBounds p.1 p.2) tmps = tmps0 at hz hsl
  have hb0 : RepW ((Env.of w passed M V keep h.nt).at_ Cs V M w []) (roundSlots h.ps.toList xs (slotsT ts ++ Cs)) V M w :=
    ((hwC.env (E' := Env.of w passed M V keep h.nt) rfl rfl rfl rfl rfl).base []).blks_only fun l B e => by
      rw [roundSlots_bk, St.get_append, slotsT_bk] at e; exact e
  have h1 := ha _ (V.ρ L) rfl rfl _ w (Rep.m (ro := { round := some (V.ρ L) }) ⟨V, M, ⟨hsl, hz, rfl⟩, hb0⟩ : RepM { round := some (V.ρ L) } ((Env.of w passed M V keep h.nt).at_ Cs V M w []) _ { tmps := tmps0, defers := [] } w)
  refine wpIn_mono h1 ?_
  rintro e a1 w1 (⟨S', ⟨rfl, hle⟩, hr1⟩ | ⟨x, hx, _⟩)
  case inr => cases hx
  obtain ⟨V1, M1, hA1, hW1⟩ := (hr1.plain rfl).weaken hle
  have hnp : V.ρ L ∉ livesOf V Cs := fun hm => by
    obtain ⟨l, hl, he⟩ := mem_lives.1 hm
    exact hn0 l hl he
  have hrec1 := (hW1.frame.block (V.ρ L) hrl hnp).trans hheap
  refine ⟨_, run_beginRound hrec1 hst, ?_⟩
  have hr1l : V.ρ L < w1.heap.size := (Array.getElem?_eq_some_iff.1 hrec1).1
  have hn1 : ∀ l, HasB V1 S1 l → V1.ρ l ≠ V.ρ L := fun l hl he => by
    rcases hW1.fresh l hl with h2 | h2
    · have h2 : w.heap.size ≤ V1.ρ l := h2
      omega
    · exact hnp (he ▸ h2)
  have hM1 : ∀ o, M1 (V.ρ L) o = none := fun o => by
    cases hc : M1 (V.ρ L) o with
    | none => rfl
    | some u =>
      rcases hW1.mnew (V.ρ L) o (by rw [hc]; simp) with h2 | h2 | h2
      · exact absurd (hM0 o) h2
      · have h2 : w.heap.size ≤ V.ρ L := h2
        omega
      · exact absurd h2 hnp
  obtain ⟨w2, hw2⟩ : ∃ x, w1.putObj (V.ρ L) (.loop { state := .busy, pending := h.pe, fn := fn, tmps := tmps, params := h.ps, assign := h.assign, body := h.body, defers := d }) = x := ⟨_, rfl⟩
  have hs2 : w2.heap.size = w1.heap.size := by rw [← hw2]; simp
  have hW2 : RepW (((Env.of w passed M V keep h.nt).at_ Cs V M w []).at_ S1 V1 M1 w2 []) S1 V1 M1 w2 := hw2 ▸ hW1.turned (WStep.put (.loop { state := .busy, pending := h.pe, fn := fn, tmps := tmps, params := h.ps, assign := h.assign, body := h.body, defers := d }) hr1l) hn1 hM1 []
  have h2 := hb (((Env.of w passed M V keep h.nt).at_ Cs V M w []).at_ S1 V1 M1 w2 []) (V.ρ L) rfl rfl a1 w2 (Rep.m (ro := { round := some (V.ρ L) }) ⟨V1, M1, ⟨hA1.slots, hA1.size, hA1.defers⟩, hW2⟩)
  show Code.wpIn _ 0 P h.body _ a1 (w1.putObj (V.ρ L) (.loop { state := .busy, pending := h.pe, fn := fn, tmps := tmps, params := h.ps, assign := h.assign, body := h.body, defers := d }))
  rw [hw2]
  refine wpIn_mono h2 ?_
  rintro e a2 w3 (⟨S', ⟨ho, hBs⟩, hr2⟩ | ⟨x, hx, _⟩)
  case inr => cases hx
  obtain ⟨V2, M2, hA2, hW3⟩ := hr2.plain rfl
  have hnp1 : V.ρ L ∉ livesOf V1 S1 := fun hm => by
    obtain ⟨l, hl, he⟩ := mem_lives.1 hm
    exact hn1 l hl he
  have hrec2 := (hW3.frame.block (V.ρ L) (by show _ < w2.heap.size; omega) hnp1).trans (hw2 ▸ World.putObj_heap_same hr1l)
  have hr3l : V.ρ L < w3.heap.size := (Array.getElem?_eq_some_iff.1 hrec2).1
  have hn2 : ∀ l, HasB V2 S' l → V2.ρ l ≠ V.ρ L := fun l hl he => by
    rcases hW3.fresh l hl with h2 | h2
    · have h2 : w2.heap.size ≤ V2.ρ l := h2
      omega
    · exact hnp1 (he ▸ h2)
  have hM2 : ∀ o, M2 (V.ρ L) o = none := fun o => by
    cases hc : M2 (V.ρ L) o with
    | none => rfl
    | some u =>
      rcases hW3.mnew (V.ρ L) o (by rw [hc]; simp) with h2 | h2 | h2
      · exact absurd (hM1 o) h2
      · have h2 : w2.heap.size ≤ V.ρ L := h2
        omega
      · exact absurd h2 hnp1
  -- what holds at the end
  have c1 : RepW (.of w passed M V keep 0) S1 V1 M1 w1 := hwC.comp hW1 rfl rfl rfl (fun _ h => h) fun b hb => mem_lives.1 hb
  have c2 : RepW (.of w passed M V keep 0) S1 V1 M1 w2 := hw2 ▸ c1.beside (WStep.put (.loop { state := .busy, pending := h.pe, fn := fn, tmps := tmps, params := h.ps, assign := h.assign, body := h.body, defers := d }) hr1l) hn1 hM1 (.inr hrp)
  have c3 : RepW (.of w passed M V keep 0) S' V2 M2 w3 := c2.comp hW3 rfl rfl rfl (fun _ h => h) fun b hb => mem_lives.1 hb
  have hk2 : ∀ l ∈ keep, V2.ρ l = V.ρ l ∧ V2.κ l = V.κ l := fun l hl => c3.keep l hl
  have fin : ∀ st, RepW (.of w passed M V keep 0) ((bk L, .blk (.lp { h with st := st, pe := pe } ts)) :: Cs') V2 M2 (w3.putObj (V.ρ L) (.loop { state := st, pending := pe, fn := fn, tmps := tmps, params := h.ps, assign := h.assign, body := h.body, defers := d })) := fun st => by
    have c4 := c3.beside (WStep.put (.loop { state := st, pending := pe, fn := fn, tmps := tmps, params := h.ps, assign := h.assign, body := h.body, defers := d }) hr3l) hn2 hM2 (.inr hrp)
    have eL := hk2 L hLk
    refine c4.add (L := L) (B := .lp { h with st := st, pe := pe } ts) (fun l C e hne => ?_) (fun C e => ?_) ?_ (fun l _ hl => by rw [eL.1]; exact hn2 l hl) (fun o => by rw [eL.1]; exact hM2 o) (.inr (by rw [eL.1]; exact hrp)) (by rw [eL.1]; simpa using hr3l)
    · rw [get_cons, if_neg (fun e => hne (by unfold bk at e; omega))] at e
      exact hBs l C e
    · rw [get_cons, if_pos rfl] at e
      injection e with e; injection e with e; exact e.symm
    · refine ⟨by rw [eL.2]; exact hk, fn, tmps, d, by rw [eL.1]; exact World.putObj_heap_same hr3l, hsz, fun p hp => ?_⟩
      obtain ⟨v, hv, hdv⟩ := htsd p hp
      exact ⟨v, hv, hdv.mono c4.mle fun l hl => hk2 l (within_ment hl (slotsWithin_mem hts hp))⟩
  have hend : ∀ jump, pe = jump → ∃ v w', (Instr.endRound (V.ρ L) jump).run P w3 = .ok v w' ∧ ∃ v1 V' M', Ending.returned v = .returned v1 ∧ Den V' M' (.d (.v (.bool pe.isNone))) v1 ∧ RepW (.of w passed M V keep 0) ((bk L, .blk (.lp (h.out pe) ts)) :: Cs') V' M' w' := fun jump hj => by
    subst hj
    exact ⟨_, _, run_endRound pe hrec2, _, V2, M2, rfl, .d _ _ (.v _), fin _⟩
  cases e with
  | normal => exact hend none (by simp only [outOf, Option.some.injEq] at ho; exact ho.symm)
  | ret => exact hend (some .ret) (by simp only [outOf, Option.some.injEq] at ho; exact ho.symm)
  | exit id => exact hend (some (.exit id)) (by simp only [outOf, Option.some.injEq] at ho; exact ho.symm)
  | goto t => exact hend (some (.goto t)) (by simp only [outOf, Option.some.injEq] at ho; exact ho.symm)
  | panic ch => simp [outOf] at ho
  | outgrown => simp [outOf] at ho

/-! The statement. -/
def jumpQ (Q : Exit → St → Prop) (S : St) : Option Code → Prop
  | none => Q .normal S
  | some .ret => Q .ret S
  | some (.exit id) => Q (.exit id) S
  | some (.goto t) => Q (.goto t) S
  | _ => False
inductive HaveTs (S : St) : List (Nat × AV) → Prop
  | nil : HaveTs S []
  | cons {t : Nat} {x : AV} {r : List (Nat × AV)} (h : S.get (sl t) = some (.av x)) (k : HaveTs S r) : HaveTs S ((t, x) :: r)
theorem HaveTs.mem {S : St} {ts : List (Nat × AV)} (h : HaveTs S ts) : ∀ p ∈ ts, S.get (sl p.1) = some (.av p.2) := by
  induction h with
  | nil => intro p hp; cases hp
  | cons h k ih =>
    intro p hp
    rcases List.mem_cons.1 hp with rfl | hp
    · exact h
    · exact ih p hp

theorem deferred_free {S : St} {V : Vals} {M : Mem} {w : World} (h : RepW E S V M w) {m : Nat} {x : Option (List Deferred)} (hm : w.heap[m]? = some (.deferred x)) : (∀ l, HasB V S l → V.ρ l ≠ m) ∧ ∀ o, M m o = none := by
  refine ⟨fun l ⟨⟨B, hB⟩, hk⟩ he => ?_, fun o => ?_⟩
  · have hblk := h.blks l B hB
    cases B with
    | cells cs => obtain ⟨_, vs, t, hh, _⟩ := hblk; rw [he, hm] at hh; cases hh
    | data ds => obtain ⟨_, vs, t, hh, _⟩ := hblk; rw [he, hm] at hh; cases hh
    | cols n len cs => obtain ⟨_, vs, t, hh, _⟩ := hblk; rw [he, hm] at hh; cases hh
    | app n len cs =>
      obtain ⟨_, _, hh⟩ := hblk
      split at hh
      · rename_i h; exact absurd h hk
      · obtain ⟨_, vs, t, hh, _⟩ := hh; rw [he, hm] at hh; cases hh
    | lp h' ts => obtain ⟨_, fn, tmps, d, hh, _⟩ := hblk; rw [he, hm] at hh; cases hh
    | appv cs =>
      have hblk : appvAt V M w l cs := hblk
      unfold appvAt at hblk
      split at hblk
      · rename_i h; exact absurd h hk
      · obtain ⟨_, vs, t, hh, _⟩ := hblk; rw [he, hm] at hh; cases hh
  · cases hc : M m o with
    | none => rfl
    | some u => have := h.mem m o u hc; simp [World.cell?, hm] at this

theorem WPA.rangeFunc {g : Operand} {ps : Array Tmp} {assign body : Code} {Q : Exit → St → Prop} {L gf nt : Nat} {cs : List AV} {ts ts' : List (Nat × AV)} {res : AV} {Bs Bs' : St} {keep new ds : List Nat} {pe : Option Code} {st : LoopState}
    (hro : ro.round = none) (hma : ro.marks = true) (hg : evalA S g = some (.fn gf cs)) (he : enterOK P gf = true) (hts : HaveTs S ts) (hnt : E.nt = nt)
    (hLS : S.get (bk L) = none) (hLf : freshB ⟨[], S, [], [L]⟩ S = true) (hLk : L ∉ E.keep) (hst : st ≠ .busy)
    (hs : FnSpec P gf (.yld L :: cs) ((bk L, .blk (.lp ⟨.ready, none, ps, assign, body, nt⟩ ts)) :: Bs) res ((bk L, .blk (.lp ⟨st, pe, ps, assign, body, nt⟩ ts')) :: Bs') keep)
    (hv : Haves ((bk L, .blk (.lp ⟨.ready, none, ps, assign, body, nt⟩ ts)) :: S) ((bk L, .blk (.lp ⟨.ready, none, ps, assign, body, nt⟩ ts)) :: Bs))
    (hh : handedB ((bk L, .blk (.lp ⟨.ready, none, ps, assign, body, nt⟩ ts)) :: S) ((bk L, .blk (.lp ⟨.ready, none, ps, assign, body, nt⟩ ts)) :: Bs) ((bk L, .blk (.lp ⟨st, pe, ps, assign, body, nt⟩ ts')) :: Bs') (.d (.v .nilFunc)) keep new (bk L :: ds) = true)
    (hLk2 : memB L keep = true) (hBL : allKeys (fun n => !Nat.beq n (bk L)) Bs' = true)
    (hnew : freshB ⟨[], S, postN (bk L :: ds) Bs', new⟩ S = true) (hnk : ∀ l ∈ new, l ∉ E.keep)
    (hq : jumpQ Q (Bs' ++ St.dels ds S) pe) : WPA P ro E (.rangeFunc g ps assign body) S Q := by
  intro a w hr
  obtain ⟨ms, h0, h1, ⟨hnd, h2⟩, V, M, ha, hw⟩ := hr
  have hnoB : Bs'.get (bk L) = none := by
    cases hc : Bs'.get (bk L) with
    | none => rfl
    | some c => have := allKeys_mem hBL _ (St.mem_of_get hc); simp [nbeq] at this
  refine wpIn_rangeFunc ?_
  intro fn _
  have hro' : (FW ro).round = none := hro
  rw [hro']
  have hden := den_eval (fun s y _ h => ha.slots s y h) hg
  have hev : Act.eval { a with defers := E.dfs } g = a.eval g := by cases g <;> rfl
  rw [hev] at hden
  generalize hgv : a.eval g = gv at hden
  cases hden with
  | fn _ _ vs hlen hcs =>
    -- the two blocks
    have hwa : RepW E S V M (w.alloc (.deferred (some []))) := hw.beside (WStep.alloc w _) (fun l hl e => by have := hw.bd l hl; omega) (fun o => by
      cases hc : M w.heap.size o with
      | none => rfl
      | some u => have := hw.mem _ _ _ hc; simp [World.cell?] at this) (.inl hw.frame.size)
    obtain ⟨wa, hwae⟩ : ∃ x, w.alloc (.deferred (some [])) = x := ⟨_, rfl⟩
    have hwsz : wa.heap.size = w.heap.size + 1 := by rw [← hwae]; simp
    have hD0 : wa.heap[w.heap.size]? = some (.deferred (some [])) := by rw [← hwae]; exact World.alloc_heap_new w _
    have hDm : ∀ m ∈ ms, wa.heap[m]? = some (.deferred (some [])) := fun m hm => by
      have := (h2 m hm).2
      rw [← hwae]
      exact ((WStep.alloc w _).other m (fun e => by have := (Array.getElem?_eq_some_iff.1 this).1; omega) (Array.getElem?_eq_some_iff.1 this).1).trans this
    rw [hwae] at hwa
    have hfL : ∀ n c, S.get n = some c → ¬ CMent c L := fun n c e => fresh_of hLf L (by simp) n c e (by simp [Ax.names])
    let V1 := V.set L (w.heap.size + 1) (some 0)
    have hwb : RepW E S V1 M wa := hwa.relabel _ _ hLS hfL hLk
    have hnoM : ∀ o, M (w.heap.size + 1) o = none := fun o => by
      cases hc : M (w.heap.size + 1) o with
      | none => rfl
      | some u => have := hwa.mem _ _ _ hc; simp [World.cell?, ← hwsz] at this
    let rec_ : Loop := { state := .ready, pending := none, fn := fn, tmps := a.tmps, params := ps, assign := assign, body := body, defers := w.heap.size }
    have hstep : WStep wa (wa.alloc (.loop rec_)) (w.heap.size + 1) := by rw [← hwsz]; exact WStep.alloc wa _
    have hnl : ∀ l, HasB V1 S l → V1.ρ l ≠ w.heap.size + 1 := fun l hl e => by have := hwb.bd l hl; omega
    have hwc : RepW E S V1 M (wa.alloc (.loop rec_)) := hwb.beside hstep hnl hnoM (.inl (by have := hw.frame.size; omega))
    have hloop : (wa.alloc (.loop rec_)).heap[w.heap.size + 1]? = some (.loop rec_) := by rw [← hwsz]; exact World.alloc_heap_new wa _
    obtain ⟨w1, hw1⟩ : ∃ x, wa.alloc (.loop rec_) = x := ⟨_, rfl⟩
    rw [hw1] at hwc hloop hstep
    have hV1L : V1.ρ L = w.heap.size + 1 := by simp [V1]
    have hVne : ∀ l, l ≠ L → V1.ρ l = V.ρ l ∧ V1.κ l = V.κ l := fun l hl => V.set_ne _ _ hl
    have hwS : RepW E ((bk L, .blk (.lp ⟨.ready, none, ps, assign, body, nt⟩ ts)) :: S) V1 M w1 := by
      refine hwc.add (L := L) (B := .lp ⟨.ready, none, ps, assign, body, nt⟩ ts) (fun l C e hne => ?_) (fun C e => ?_) ?_ (fun l _ hl => by rw [hV1L]; exact hnl l hl) (fun o => by rw [hV1L]; exact hnoM o) (.inl (by rw [hV1L]; have := hw.frame.size; omega)) (by rw [hV1L]; exact hstep.lt)
      · rw [get_cons, if_neg (fun e => hne (by unfold bk at e; omega))] at e; exact e
      · rw [get_cons, if_pos rfl] at e
        injection e with e; injection e with e; exact e.symm
      · refine ⟨by simp [V1], fn, a.tmps, w.heap.size, by rw [hV1L]; exact hloop, ha.size.trans hnt, fun p hp => ?_⟩
        have hget := hts.mem p hp
        obtain ⟨v, hv', hdv⟩ := ha.slots _ _ hget
        exact ⟨v, hv', hdv.mono (Mem.le_refl M) fun l hl => hVne l fun e => hfL _ _ hget (e ▸ hl)⟩
    have haS : RepA E ((bk L, .blk (.lp ⟨.ready, none, ps, assign, body, nt⟩ ts)) :: S) V1 M { a with defers := E.dfs } := by
      refine ⟨fun t x e => ?_, ha.size, rfl⟩
      rw [get_cons, if_neg (Ne.symm (sl_ne_bk t L))] at e
      obtain ⟨v, hv', hdv⟩ := ha.slots t x e
      exact ⟨v, hv', hdv.mono (Mem.le_refl M) fun l hl => hVne l fun e' => hfL _ _ e (e' ▸ hl)⟩
    have hH := (handed_of hv hh).n
    have hargs : DenL V1 M (.yld L :: cs) (.func (.yield (w.heap.size + 1)) #[] #[] :: vs) := ⟨by simp [hlen], fun j x y hx hy => by
      cases j with
      | zero =>
        simp only [List.getElem?_cons_zero, Option.some.injEq] at hx hy
        subst hx; subst hy
        rw [← hV1L]; exact .yld L
      | succ j =>
        simp only [List.getElem?_cons_succ] at hx hy
        refine (hcs j x y hx hy).mono (Mem.le_refl M) fun l hl => hVne l fun e => ?_
        have hmf : Ment (.fn gf cs) L := .fn gf cs x L (List.mem_of_getElem? hx) (e ▸ hl)
        cases g with
        | tmp t =>
          simp only [evalA] at hg
          split at hg
          · rename_i z hz
            injection hg with hg; subst hg
            exact hfL _ _ hz hmf
          · cases hg
        | const v => simp only [evalA, Option.some.injEq] at hg; cases hg
        | func f => simp only [evalA, Option.some.injEq, AV.fn.injEq] at hg; rw [← hg.2] at hx; simp at hx
        | global k => simp only [evalA, Option.some.injEq] at hg; cases hg⟩
    refine ⟨w.heap.size + 1, [{ target := .collected w.heap.size, args := #[] }], w1, { target := .fn (.func gf) vs.toArray, args := #[.func (.yield (w.heap.size + 1)) #[] #[]] }, w1, gf, #[.func (.yield (w.heap.size + 1)) #[] #[]] ++ vs.toArray, w1, ?_, ?_, ?_, ?_, fw_depth ro 0, ?_⟩
    · rw [← hw1, ← hwae]; exact run_enterLoop_outer _ _ _ _ _
    · simp only [resolve, hgv]
      simp [Deferred.ofValue, Sem.run_bind, Sem.run_pure, Result.andThen, Act.eval]
    · intro f' hf'; trivial
    · show (callFunc gf (#[.func (.yield (w.heap.size + 1)) #[] #[]] ++ vs.toArray)).run P w1 = _
      exact run_callFunc he _ _
    have hcall := hs V1 M w1 _ _ (handed_pre hwS hH) hargs
    have hta : (Value.func (.yield (w.heap.size + 1)) #[] #[] :: vs).toArray = #[.func (.yield (w.heap.size + 1)) #[] #[]] ++ vs.toArray := by simp
    rw [hta] at hcall
    refine callsIn_fw (hcall.mono ?_)
    rintro e w' ⟨v, V', M', rfl, _, hw'⟩
    -- behind the iterator
    have hkeep := hw'.keep L (memB_iff.1 hLk2)
    obtain ⟨_, fn', tmps', d', hrec, _⟩ := hw'.blks L (.lp ⟨st, pe, ps, assign, body, nt⟩ ts') (by rw [get_cons, if_pos rfl])
    have hρ' : V'.ρ L = w.heap.size + 1 := hkeep.1.trans hV1L
    rw [hρ'] at hrec
    obtain ⟨Vn, hA, hW, hVn⟩ := called_rep haS hwS hH (fun l hl n c hc h3 h4 => by
      by_cases hn : n = bk L
      · subst hn; simp at h4
      · rw [get_cons, if_neg (Ne.symm hn)] at hc
        refine fresh_of hnew l hl n c hc fun hm => ?_
        simp only [Ax.names, postN, somes_eq, delsOf, List.map_append, List.map_map, List.map_reverse, List.mem_append, List.mem_map, List.mem_reverse, Function.comp] at hm
        rcases hm with ⟨y, hy, rfl⟩ | ⟨y, hy, rfl⟩
        · exact h3 hy
        · exact h4 (by simp only [List.map_cons, List.mem_cons, List.mem_map]; exact .inr ⟨y, hy, rfl⟩)) hnk hw'
    have hVL : Vn.ρ L = w.heap.size + 1 := (hVn L (by simp [memB_iff.1 hLk2])).1.trans hρ'
    have hgT : (St.upd ((bk L, .blk (.lp ⟨.ready, none, ps, assign, body, nt⟩ ts)) :: S) (postN (bk L :: ds) ((bk L, .blk (.lp ⟨st, pe, ps, assign, body, nt⟩ ts')) :: Bs'))).get (bk L) = some (.blk (.lp ⟨st, pe, ps, assign, body, nt⟩ ts')) := by
      rw [get_postN, get_cons, if_pos rfl]
    have hle : St.le (Bs' ++ St.dels ds S) (St.upd ((bk L, .blk (.lp ⟨.ready, none, ps, assign, body, nt⟩ ts)) :: S) (postN (bk L :: ds) ((bk L, .blk (.lp ⟨st, pe, ps, assign, body, nt⟩ ts')) :: Bs'))) := by
      intro n c e
      rw [St.get_append, get_dels] at e
      rw [get_postN, get_cons]
      by_cases hn : bk L = n
      · subst hn
        rw [hnoB] at e
        simp only [hLS, ite_self] at e
        cases e
      · rw [if_neg hn]
        cases hb : Bs'.get n with
        | some c' => rw [hb] at e; exact e
        | none =>
          rw [hb] at e
          simp only at e ⊢
          by_cases hd : n ∈ ds
          · rw [if_pos hd] at e; cases e
          · rw [if_neg hd] at e
            rw [if_neg (by simp [hd, Ne.symm hn]), get_cons, if_neg hn]; exact e
    have hrl : w.heap.size + 1 < w'.heap.size := (Array.getElem?_eq_some_iff.1 hrec).1
    have hLin : HasB Vn (St.upd ((bk L, .blk (.lp ⟨.ready, none, ps, assign, body, nt⟩ ts)) :: S) (postN (bk L :: ds) ((bk L, .blk (.lp ⟨st, pe, ps, assign, body, nt⟩ ts')) :: Bs'))) L := ⟨⟨_, hgT⟩, by rw [(hVn L (by simp [memB_iff.1 hLk2])).2, hkeep.2]; show V1.κ L ≠ none; simp [V1]⟩
    have hnL : ∀ l, HasB Vn (Bs' ++ St.dels ds S) l → Vn.ρ l ≠ w.heap.size + 1 := fun l hl he => by
      have hlL : l ≠ L := fun e => by
        subst e
        obtain ⟨⟨B, hB⟩, _⟩ := hl
        rw [St.get_append, hnoB, get_dels, hLS] at hB
        simp at hB
      exact hW.inj l L (hl.weaken hle) hLin hlL (he.trans hVL.symm)
    have hWf := (hW.weaken hle).beside (WStep.put (.loop { state := .exhausted, pending := pe, fn := fn', tmps := tmps', params := ps, assign := assign, body := body, defers := d' }) hrl) hnL (fun o => by rw [← hVL]; exact hW.sep L hLin o) (.inl (by have := hw.frame.size; omega))
    have hmark : ∀ m ∈ w.heap.size :: ms, E.w0.heap.size ≤ m ∧ (w'.putObj (w.heap.size + 1) (.loop { state := .exhausted, pending := pe, fn := fn', tmps := tmps', params := ps, assign := assign, body := body, defers := d' })).heap[m]? = some (.deferred (some [])) := by
      intro m hm
      have hma : wa.heap[m]? = some (.deferred (some [])) := by
        rcases List.mem_cons.1 hm with rfl | hm
        · exact hD0
        · exact hDm m hm
      have hml := (Array.getElem?_eq_some_iff.1 hma).1
      have hm1 : w1.heap[m]? = some (.deferred (some [])) := (hstep.other m (by omega) hml).trans hma
      have hml1 := (Array.getElem?_eq_some_iff.1 hm1).1
      refine ⟨?_, ?_⟩
      · rcases List.mem_cons.1 hm with rfl | hm
        · exact hw.frame.size
        · exact (h2 m hm).1
      · rw [World.putObj_heap_other (by omega)]
        refine (hw'.frame.block m hml1 fun hp => ?_).trans hm1
        obtain ⟨l, hl, _, _, he⟩ := passed_has hH _ hp
        exact (deferred_free hwS hm1).1 l hl he
    have hRM : RepM ro E (Bs' ++ St.dels ds S) { a with defers := [{ target := .collected w.heap.size, args := #[] }] ++ a.defers } (w'.putObj (w.heap.size + 1) (.loop { state := .exhausted, pending := pe, fn := fn', tmps := tmps', params := ps, assign := assign, body := body, defers := d' })) := by
      refine ⟨w.heap.size :: ms, (fun h => by rw [hma] at h; cases h), by simp [h1], ⟨List.nodup_cons.2 ⟨fun hm => ?_, hnd⟩, hmark⟩, Vn, M', hA.weaken hle, hWf⟩
      have := (Array.getElem?_eq_some_iff.1 (h2 _ hm).2).1
      omega
    refine ⟨pe, _, run_endLoop hrec hst, ?_⟩
    cases pe with
    | none => exact .inl ⟨_, hq, hRM⟩
    | some c =>
      cases c with
      | ret => exact wpIn_ret (.inl ⟨_, hq, hRM⟩)
      | exit id => exact wpIn_exit (.inl ⟨_, hq, hRM⟩)
      | goto t => exact wpIn_goto (.inl ⟨_, hq, hRM⟩)
      | _ => exact hq.elim

/-! A function that holds such a statement. -/
theorem leaves_marks {fn : Func} {tmps : Array Value} {R : Ending → World → Prop} {S : St} {V : Vals} {M : Mem} : ∀ (ms : List Nat) (w : World), ms.Nodup → (∀ m ∈ ms, E.w0.heap.size ≤ m ∧ w.heap[m]? = some (.deferred (some []))) → RepW E S V M w →
    (∀ w', RepW E S V M w' → ∃ v, (results fn tmps).run P w' = .ok v w' ∧ R (.returned v) w') → LeavesInM Fence.wide 0 P fn tmps R (ms.map mark) .returning w
  | [], w, _, _, hw, h => h w hw
  | m :: ms, w, hnd, hm, hw, h => by
    have hm0 := hm m (by simp)
    obtain ⟨hf1, hf2⟩ := deferred_free hw hm0.2
    have hml := (Array.getElem?_eq_some_iff.1 hm0.2).1
    refine ⟨by simp, .inl ⟨m, _, rfl, run_takeDeferred hm0.2, leaves_marks ms _ (List.nodup_cons.1 hnd).2 (fun k hk => ?_) (hw.beside (WStep.put _ hml) hf1 hf2 (.inl hm0.1)) h⟩⟩
    refine ⟨(hm k (by simp [hk])).1, ?_⟩
    have hne : k ≠ m := fun e => (List.nodup_cons.1 hnd).1 (e ▸ hk)
    rw [World.putObj_heap_other hne]
    exact (hm k (by simp [hk])).2

theorem fnSpec_of_marks {f : FuncId} {fn : Func} {c : Code} {args : List AV} {Bs Bs' : St} {res : AV} {keep : List Nat} {rs : List ResultVar} (hf : P.funcs[f]? = some fn) (hb : fn.body = some c) (hrs : fn.results = rs.toArray)
    (hn : args.length ≤ fn.ntmps) (hBs : ∀ n c, Bs.get n = some c → n % 2 = 1)
    (h : ∀ E : Env, E.keep = keep → E.nt = fn.ntmps → WPA P { marks := true } E c (slotsOf 0 args ++ Bs) fun e S' => (e = .normal ∨ e = .ret) ∧ (∃ xs, ResVars P S' rs xs ∧ res = resOf xs) ∧ ∀ l B, Bs'.get (bk l) = some (.blk B) → S'.get (bk l) = some (.blk B)) :
    FnSpec P f args Bs res Bs' keep := by
  intro V M w passed vs hw hd
  refine (callsIn_wide (n := 0)).1 (callsIn_of_wp_marks hf hb trivial ?_ rfl)
  have hrep := rep_enter fn.ntmps hn hBs hw hd
  have := h (.of w passed M V keep fn.ntmps) rfl rfl _ w hrep.m
  refine wpIn_mono this ?_
  rintro e a w' (⟨S', ⟨he, ⟨xs, hxs, rfl⟩, hbs'⟩, hrm⟩ | ⟨x, hp, _⟩)
  case inr => cases hp
  obtain ⟨ms, _, hdef, ⟨hnd, hms⟩, V', M', ha', hw'⟩ := hrm
  have hdef : a.defers = ms.map mark := by simpa using hdef
  have key : LeavesInM Fence.wide 0 P fn a.tmps (fun e w' => ∃ v V' M', e = .returned v ∧ Den V' M' (resOf xs) v ∧ RepW (.of w passed M V keep 0) Bs' V' M' w') a.defers .returning w' := by
    rw [hdef]
    refine leaves_marks ms w' hnd hms hw' fun w2 hw2 => ?_
    obtain ⟨v, hv, hdv⟩ := results_run ha' hw2 hrs hxs
    exact ⟨v, hv, v, V', M', rfl, hdv, (hw2.env (E' := (.of w passed M V keep 0)) rfl rfl rfl rfl rfl).blks_only hbs'⟩
  rcases he with rfl | rfl
  · exact key
  · exact key

end Go.Proofs.Ytcnikeonaklkoaa
