/- Walks that end with a panic; contracts of functions that panic. No program in sight. -/
import Derived.Test.YtcnikeonaklkoaaMore
namespace Go.Proofs.Ytcnikeonaklkoaa
open Go
set_option linter.unusedVariables false
set_option linter.unusedSimpArgs false
variable {P : Program} {S : St} {ro : Ro} {ops : Array Oper} {E : Env}

/-- A call of f on these arguments ends with this panic; the world outside of the blocks that it was given stays. -/
def PSpec (P : Program) (f : FuncId) (args : List AV) (Bs : St) (ch : List PanicEntry) : Prop :=
  ∀ (V : Vals) (M : Mem) (w : World) (passed : List Nat) (vs : List Value), RepW (.of w passed M V [] 0) Bs V M w → DenL V M args vs →
    Calls P f vs.toArray w fun e w' => e = .panicked ch ∧ FrameOK (.of w passed M V [] 0) w'

theorem pSpec_of {f : FuncId} {fn : Func} {c : Code} {args : List AV} {Bs : St} {ch : List PanicEntry} (hf : P.funcs[f]? = some fn) (hb : fn.body = some c)
    (hn : args.length ≤ fn.ntmps) (hBs : ∀ n c, Bs.get n = some c → n % 2 = 1)
    (h : ∀ E : Env, E.keep = [] → E.nt = fn.ntmps → WPA P { pan := some (ch, []) } E c (slotsOf 0 args ++ Bs) fun e S' => False) : PSpec P f args Bs ch := by
  intro V M w passed vs hw hd
  refine calls_of_wp hf hb ?_
  let E : Env := .of w passed M V [] fn.ntmps
  have hrep : Rep E (slotsOf 0 args ++ Bs) { tmps := vs.toArray ++ Array.replicate (fn.ntmps - vs.toArray.size) undef, defers := [] } w := by
    refine ⟨V, M, ⟨fun t x ht => ?_, ?_, rfl⟩, ?_⟩
    · rw [St.get_append] at ht
      cases hg : (slotsOf 0 args).get (sl t) with
      | none =>
        rw [hg] at ht
        have := hBs _ _ ht
        unfold sl at this; omega
      | some c =>
        rw [hg] at ht
        simp only [Option.some.injEq] at ht
        subst ht
        obtain ⟨_, h2⟩ := slotsOf_get args 0 t x hg
        simp only [Nat.sub_zero] at h2
        have hlt : t < vs.length := by have := (List.getElem?_eq_some_iff.1 h2).1; rw [← hd.len]; exact this
        exact ⟨vs[t], by simp [Array.getElem?_append, hlt], hd.at' t x _ h2 (List.getElem?_eq_getElem hlt)⟩
    · have := hd.len
      simp only [Array.size_append, List.size_toArray, Array.size_replicate]
      show _ = fn.ntmps
      omega
    · refine (hw.env (E' := E) rfl rfl rfl rfl rfl).blks_only fun l B hl => ?_
      rw [St.get_append, slotsOf_bk] at hl
      exact hl
  have := wpIn_wide.1 (h E rfl rfl _ w hrep.m)
  refine Code.wp_mono ?_ this
  rintro e a w' (⟨S', hF, _⟩ | ⟨x, hx, rfl, hrm⟩)
  · exact hF.elim
  · obtain ⟨V', M', ha', hw'⟩ := hrm.plain rfl
    injection hx with hx
    subst hx
    exact ⟨ha'.defers, rfl, ⟨hw'.frame.os, hw'.frame.tape, hw'.frame.output, hw'.frame.size, hw'.frame.block⟩⟩

/-- What no value is. -/
abbrev bot : AV := .d (.rows 1 1 fun _ => [])
theorem den_bot {V : Vals} {M : Mem} {v : Value} : ¬ Den V M bot v := by
  intro h
  cases h with
  | d _ _ h =>
    cases h with
    | rows _ _ _ b o cap hc hl c hm h => exact absurd (hl 0 (by decide)) (by simp)
theorem rep_bot {t : Nat} {a : Act} {w : World} (h : S.get (sl t) = some (.av bot)) : ¬ Rep E S a w := fun ⟨V, M, ha, _⟩ => let ⟨v, _, hd⟩ := ha.slots t _ h; den_bot hd

theorem AxOp.bot {o : Oper} {S0 : St} {t : Nat} (h : S0.get (sl t) = some (.av bot)) : AxOp P ro ops o ⟨[sl t], S0, [], []⟩ := by
  intro E S a w hs _ _ hr Q _
  exact absurd hr (rep_bot (by rw [hs (sl t) (by simp)]; exact h))
/-- Behind a panic: anything. -/
theorem Trace.bot {S0 S' : St} {o : Oper} {r : List Oper} {L : List Ax} (t : Nat) (h0 : S0.get (sl t) = some (.av bot)) (h : Trace P ro ops r S0 L S') : Trace P ro ops (o :: r) S0 (⟨[sl t], S0, [], []⟩ :: L) S' :=
  .cons (AxOp.bot h0) (fun _ _ => rfl) (fun l hl => by cases hl) (fun _ => rfl) h

theorem WPA.regionX {id : Nat} {S S' : St} {L : List Ax} {Q : Exit → St → Prop} (t : Nat) (h : Trace P ro ops ops.toList S L S') (hk : KeepOK E L) (hb : S'.get (sl t) = some (.av Go.Proofs.Ytcnikeonaklkoaa.bot)) : WPA P ro E (.region id ops false) S Q := by
  intro a w hr
  obtain ⟨E2, e1, e2, hr2, back⟩ := hr.from
  refine wpIn_region ?_
  have := wpOpsIn_of_trace (Q := WPost ro E Q) h (hk.env e1 e2) (fun x hp a w hr => .inr ⟨x, hp, rfl, back _ _ _ hr⟩) (fun a w hr => absurd hr (rep_bot hb)) 0 (fun j => by simp) a w hr2
  rw [List.range_eq_range', ← Array.length_toList]
  exact this
theorem WPA.drawX {id : Nat} {S S' : St} {L : List Ax} {Q : Exit → St → Prop} (t : Nat) (hm : P.follows .mixedOrders = true) (h : Trace P ro ops ops.toList S L S') (hd : drawB ops.toList S L = true) (hk : KeepOK E L) (hb : S'.get (sl t) = some (.av Go.Proofs.Ytcnikeonaklkoaa.bot)) :
    WPA P ro E (.region id ops true) S Q := by
  intro a w hr
  obtain ⟨E2, e1, e2, hr2, back⟩ := hr.from
  exact wpIn_region_any hm (wpAnyIn_of_trace h hd (hk.env e1 e2) (fun x hp a w hr => .inr ⟨x, hp, rfl, back _ _ _ hr⟩) (fun a w hr => absurd hr (rep_bot hb)) (hr2.drawn _))

/-! The operation 'panic'. -/
theorem axOp_panic {S0 : St} {x : Operand} {ty : TypeId} {pos : String} {af : Array Edge} {d : Option Nat} {u : Value} (t : Nat) (hx : Ev S0 true x (.d (.v u))) (hp : ro.pan = some ([{ v := u, recovered := false }], [])) (hu : ∀ w, (Instr.panic u).run P w = .halt (.panic u) w) :
    AxOp P ro ops ⟨d, .panic x, ty, pos, af, none⟩ ⟨opNames ⟨d, .panic x, ty, pos, af, none⟩, S0, [(sl t, some (.av Go.Proofs.Ytcnikeonaklkoaa.bot))], []⟩ := by
  intro E S a w hag hfr hok ⟨V, M, ha, hw⟩ Q hpn
  unfold stepIn
  rw [if_pos (by simp [Region.wanted])]
  have h := (given_of (bl := []) hag (fun n hn => by simpa using hn) (fun l hl => by cases hl) rfl ha hw : Given E S0 ⟨d, .panic x, ty, pos, af, none⟩ [] true V M a w)
  have h1 := h.opd x (by simp [Op.operands]) _ hx
  have hv : a.eval x = u := by
    generalize a.eval x = z at h1
    cases h1 with | d _ _ h => cases h with | v _ => rfl
  refine ⟨about_fw _ a w, ?_⟩
  rw [Oper.semAt_eq _ _ _ (fun d h => by cases h)]
  have hr : (execOp a.eval ⟨d, .panic x, ty, pos, af, none⟩).run P w = .halt (.panic u) w := by
    simp only [execOp, hv, Sem.run_bind, hu]
    rfl
  rw [hr]
  exact hpn _ hp a w ⟨V, M, ⟨fun s y e => by simp [St.get] at e, ha.size, ha.defers⟩, hw.blks_only fun l B e => by simp [St.get] at e⟩

theorem run_panic_iface (t : TypeId) (u : Value) (w : World) : (Instr.panic (.iface t u)).run P w = .halt (.panic (.iface t u)) w := rfl

theorem Pure.makeIface {x : Operand} {ty t : TypeId} {pos : String} {af : Array Edge} {gd : Option (Nat × Bool)} {d : Option Nat} {c : Bool} {u : Value} {k : TypeDesc} (hu : P.underlying t = some k) (hk : (∀ m, k ≠ .interface m)) (e1 : Ev S c x (.d (.v u))) :
    Pure P S [] ⟨d, .makeInterface t x, ty, pos, af, gd⟩ c (.d (.v (.iface t u))) := by
  refine ⟨(fun _ h => nomatch h), fun E V M a w h hc => ?_⟩
  have h1 := h.opd x (by simp [Op.operands]) _ e1
  have hv : a.eval x = u := by
    generalize a.eval x = z at h1
    cases h1 with | d _ _ h => cases h with | v _ => rfl
  refine ⟨.iface t u, ?_, .d _ _ (.v _)⟩
  generalize a.eval = ρ at *
  simp only [execOp, hv, Instr.makeInterface, Sem.run_bind, run_underlying hu, Result.andThen]
  cases k <;> first | rfl | exact absurd rfl (hk _)

/-! A call that panics. -/
structure HandedX (S0 Bs pst : St) : Prop where
  odd : ∀ p ∈ Bs, p.1 % 2 = 1
  have_ : ∀ p ∈ Bs, S0.get p.1 = some p.2
  blk : ∀ p ∈ Bs, ∃ B, p.2 = .blk B
  have' : ∀ p ∈ pst, S0.get p.1 = some p.2
  apart : ∀ p ∈ pst, ∀ q ∈ Bs, p.1 ≠ q.1

theorem axOp_callX {S0 : St} {o : Oper} {cl : Call} {t : Nat} {g : FuncId} {args : List AV} {Bs pst : St} {ch : List PanicEntry} (ho : o.op = .call cl) (hgd : o.guard = none)
    (hca : CallArgs S0 true cl g args) (hg : enterOK P g = true) (hs : PSpec P g args Bs ch) (hh : HandedX S0 Bs pst) (hp : ro.pan = some (ch, pst)) :
    AxOp P ro ops o ⟨opNames o ++ (delsA Bs ++ delsA pst), S0, [(sl t, some (.av Go.Proofs.Ytcnikeonaklkoaa.bot))], []⟩ := by
  intro E S a w hag hfr hok ⟨V, M, ha, hw⟩ Q hpn
  unfold stepIn
  rw [if_pos (by simp [Region.wanted, hgd])]
  obtain ⟨vs, hr, hd⟩ := run_call ho (given_of hag (fun n hn => by simp [hn]) (fun l hl => by cases hl) rfl ha hw : Given E S0 o [] true V M a w) hca hg
  refine ⟨about_fw o a w, ?_⟩
  rw [Oper.semAt_eq _ _ _ (fun d h => by rw [ho] at h; cases h), hr]
  refine ⟨fw_depth ro 0, callsIn_fw ?_⟩
  have hget : ∀ l B, Bs.get (bk l) = some (.blk B) → S.get (bk l) = some (.blk B) := fun l B e => by
    have hm := St.mem_of_get e
    rw [hag (bk l) (by simp only [delsA, keysOf_eq, List.mem_append, List.mem_map]; exact .inr (.inl ⟨_, hm, rfl⟩))]
    exact hh.have_ _ hm
  have hB : ∀ l, HasB V Bs l → HasB V S l := fun l ⟨⟨B, e⟩, k⟩ => ⟨⟨B, hget l B e⟩, k⟩
  let pl : List Nat := (labs Bs).filter fun l => (V.κ l).isSome
  let passed : List Nat := pl.map V.ρ
  have hpl : ∀ l, l ∈ pl → HasB V S l ∧ bk l ∈ Bs.map Prod.fst := fun l hl => by
    simp only [pl, List.mem_filter, labs, List.mem_map] at hl
    obtain ⟨⟨p, hp, rfl⟩, hk⟩ := hl
    have hodd := hh.odd p hp
    have e : bk (p.1 / 2) = p.1 := by unfold bk; omega
    obtain ⟨B, hBp⟩ := hh.blk p hp
    have h1 := hh.have_ p hp
    rw [hBp] at h1
    rw [e]
    refine ⟨⟨⟨B, ?_⟩, by cases hx : V.κ (p.1 / 2) <;> simp_all⟩, List.mem_map.2 ⟨p, hp, rfl⟩⟩
    rw [e, hag p.1 (by simp only [delsA, keysOf_eq, List.mem_append, List.mem_map]; exact .inr (.inl ⟨p, hp, rfl⟩))]
    exact h1
  have hpre : RepW (.of w passed M V [] 0) Bs V M w :=
    { blks := fun l B e => hw.blks l B (hget l B e), inj := fun l l' a b => hw.inj l l' (hB l a) (hB l' b), sep := fun l a => hw.sep l (hB l a)
      fresh := fun l a => .inr (by
        obtain ⟨⟨B, e⟩, k⟩ := a
        have hm := St.mem_of_get e
        simp only [passed, pl, List.mem_map, List.mem_filter, labs]
        exact ⟨l, ⟨⟨_, hm, by unfold bk; omega⟩, by cases hx : V.κ l <;> simp_all⟩, rfl⟩)
      bd := fun l a => hw.bd l (hB l a)
      mem := hw.mem, mle := Mem.le_refl M, mnew := fun b o h => .inl h, keep := fun l hl => ⟨rfl, rfl⟩, frame := ⟨rfl, rfl, rfl, Nat.le_refl _, fun _ _ _ => rfl⟩ }
  refine (hs V M w passed vs hpre hd).mono ?_
  rintro e w' ⟨rfl, hf⟩
  have hpget : ∀ n c, pst.get n = some c → S.get n = some c ∧ n ∉ Bs.map Prod.fst := fun n c e => by
    have hm := St.mem_of_get e
    refine ⟨?_, fun hn => ?_⟩
    · rw [hag n (by simp only [delsA, keysOf_eq, List.mem_append, List.mem_map]; exact .inr (.inr ⟨_, hm, rfl⟩))]
      exact hh.have' _ hm
    · obtain ⟨q, hq, he⟩ := List.mem_map.1 hn
      exact hh.apart _ hm q hq he.symm
  have hPB : ∀ l, HasB V pst l → HasB V S l ∧ V.ρ l ∉ passed := fun l ⟨⟨B, e⟩, k⟩ => by
    obtain ⟨h1, h2⟩ := hpget _ _ e
    refine ⟨⟨⟨B, h1⟩, k⟩, fun hp => ?_⟩
    obtain ⟨l', hl', he⟩ := List.mem_map.1 hp
    obtain ⟨h3, h4⟩ := hpl l' hl'
    have hne : l ≠ l' := fun e => h2 (e ▸ h4)
    exact hw.inj l l' ⟨⟨B, h1⟩, k⟩ h3 hne he.symm
  have hcell : ∀ b o v, M b o = some v → w'.heap[b]? = w.heap[b]? := fun b o v hm => by
    have hc := hw.mem b o v hm
    have hlt : b < w.heap.size := by
      cases hb : w.heap[b]? with
      | none => simp [World.cell?, hb] at hc
      | some x => exact (Array.getElem?_eq_some_iff.1 hb).1
    refine hf.block b hlt fun hp => ?_
    obtain ⟨l', hl', he⟩ := List.mem_map.1 hp
    have := hw.sep l' (hpl l' hl').1 o
    rw [he, hm] at this; cases this
  refine hpn _ hp a w' ⟨V, M, ⟨fun s y e => ha.slots s y (hpget _ _ e).1, ha.size, ha.defers⟩, ?_⟩
  · exact
    { blks := fun l B e => (hw.blks l B (hpget _ _ e).1).turn (Mem.le_refl _) ⟨rfl, rfl⟩ (fun _ _ => ⟨rfl, rfl⟩) (fun hk => hf.block _ (hw.bd l ⟨⟨B, (hpget _ _ e).1⟩, hk⟩) (hPB l ⟨⟨B, e⟩, hk⟩).2)
      inj := fun l l' a b => hw.inj l l' (hPB l a).1 (hPB l' b).1
      sep := fun l a => hw.sep l (hPB l a).1
      fresh := fun l a => hw.fresh l (hPB l a).1
      bd := fun l a => Nat.lt_of_lt_of_le (hw.bd l (hPB l a).1) hf.size
      mem := fun b o v hm => by
        have := hw.mem b o v hm
        have he := hcell b o v hm
        simpa [World.cell?, he] using this
      mle := hw.mle, mnew := hw.mnew, keep := hw.keep
      frame := ⟨hf.os.trans hw.frame.os, hf.tape.trans hw.frame.tape, hf.output.trans hw.frame.output, Nat.le_trans hw.frame.size hf.size, fun b hb hp => (hf.block b (Nat.lt_of_lt_of_le hb hw.frame.size) (fun h => by
        obtain ⟨l', hl', he⟩ := List.mem_map.1 h
        rcases hw.fresh l' (hpl l' hl').1 with h | h
        · omega
        · exact hp (he ▸ h))).trans (hw.frame.block b hb hp)⟩ }

inductive HavesC (S : St) : St → Prop
  | nil : HavesC S []
  | cons {n : Nat} {c : Cont} {r : St} (h : S.get n = some c) (t : HavesC S r) : HavesC S ((n, c) :: r)
def handedXB (Bs pst : St) : Bool := blocksOnly Bs && allKeys (fun n => !memB n (keysOf Bs)) pst
theorem handedX_of {S0 Bs pst : St} (h1 : Haves S0 Bs) (h2 : HavesC S0 pst) (h : handedXB Bs pst = true) : HandedX S0 Bs pst := by
  simp only [handedXB, Bool.and_eq_true] at h
  have hv : ∀ {B : St}, Haves S0 B → ∀ p ∈ B, S0.get p.1 = some p.2 ∧ ∃ B, p.2 = .blk B := by
    intro B h0
    induction h0 with
    | nil => intro p hp; cases hp
    | cons h t ih =>
      intro p hp
      rcases List.mem_cons.1 hp with rfl | hp
      · exact ⟨h, _, rfl⟩
      · exact ih p hp
  have hv2 : ∀ {B : St}, HavesC S0 B → ∀ p ∈ B, S0.get p.1 = some p.2 := by
    intro B h0
    induction h0 with
    | nil => intro p hp; cases hp
    | cons h t ih =>
      intro p hp
      rcases List.mem_cons.1 hp with rfl | hp
      · exact h
      · exact ih p hp
  refine ⟨odd_mem h.1, fun p hp => (hv h1 p hp).1, fun p hp => (hv h1 p hp).2, fun p hp => hv2 h2 p hp, fun p hp q hq e => ?_⟩
  have := allKeys_mem h.2 p hp
  rw [memB_iff.2 (by rw [keysOf_eq, e]; exact List.mem_map.2 ⟨q, hq, rfl⟩)] at this
  cases this
theorem Trace.cx {S0 S' : St} {cl : Call} {d : Option Nat} {ty : TypeId} {pos : String} {af : Array Edge} {r : List Oper} {L : List Ax} {g : FuncId} {args : List AV} {Bs pst : St} {ch : List PanicEntry} (t : Nat) (hca : CallArgs S0 true cl g args) (hs : PSpec P g args Bs ch) (hg : enterOK P g = true)
    (hv : Haves S0 Bs) (hv' : HavesC S0 pst) (hh : handedXB Bs pst = true) (hp : ro.pan = some (ch, pst)) (h : Trace P ro ops r ((sl t, .av Go.Proofs.Ytcnikeonaklkoaa.bot) :: S0) L S') :
    Trace P ro ops (⟨d, .call cl, ty, pos, af, none⟩ :: r) S0 (⟨opNames ⟨d, .call cl, ty, pos, af, none⟩ ++ (delsA Bs ++ delsA pst), S0, [(sl t, some (.av Go.Proofs.Ytcnikeonaklkoaa.bot))], []⟩ :: L) S' :=
  .cons (axOp_callX rfl rfl hca hg hs (handedX_of hv hv' hh) hp) (fun _ _ => rfl) (fun l hl => by cases hl) (cons_upd S0 _ _) h
theorem Trace.panicOp {S0 S' : St} {x : Operand} {d : Option Nat} {ty : TypeId} {pos : String} {af : Array Edge} {r : List Oper} {L : List Ax} {k : TypeId} {u : Value} (t : Nat) (hx : Ev S0 true x (.d (.v (.iface k u)))) (hp : ro.pan = some ([{ v := .iface k u, recovered := false }], []))
    (h : Trace P ro ops r ((sl t, .av Go.Proofs.Ytcnikeonaklkoaa.bot) :: S0) L S') :
    Trace P ro ops (⟨d, .panic x, ty, pos, af, none⟩ :: r) S0 (⟨opNames ⟨d, .panic x, ty, pos, af, none⟩, S0, [(sl t, some (.av Go.Proofs.Ytcnikeonaklkoaa.bot))], []⟩ :: L) S' :=
  .cons (axOp_panic t hx hp (run_panic_iface k u)) (fun _ _ => rfl) (fun l hl => by cases hl) (cons_upd S0 _ _) h

end Go.Proofs.Ytcnikeonaklkoaa
