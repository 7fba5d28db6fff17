/- Deferred closures that recover. No program in sight. -/
import Derived.Test.YtcnikeonaklkoaaNest
import Derived.Recover
import Derived.WideLaws
namespace Go.Proofs.Ytcnikeonaklkoaa
open Go
set_option linter.unusedVariables false
set_option linter.unusedSimpArgs false
variable {P : Program} {S : St} {ro : Ro} {ops : Array Oper} {E : Env}

/-- A deferred call of f, in a frame that is in mode u and then in mode u': it returns, and leaves these blocks. -/
def DSpec (P : Program) (f : FuncId) (args : List AV) (Bs Bs' : St) (u u' : FrameMode) (keep : List Nat) : Prop :=
  ∀ (V : Vals) (M : Mem) (w : World) (passed : List Nat) (vs : List Value), RepW (.of w passed M V keep 0) Bs V M w → DenL V M args vs →
    CallsD P f vs.toArray u w fun e m w' => ∃ v V' M', e = .returned v ∧ m = u' ∧ RepW (.of w passed M V keep 0) Bs' V' M' w'

/-- What 'recover' hands back, and the mode behind it. -/
inductive Recovers : FrameMode → Value → FrameMode → Prop
  | calm : Recovers .returning .nilIface .returning
  | caught (v : Value) (older : List PanicEntry) : Recovers (.panicking ({ v := v, recovered := false } :: older)) v (.panicking ({ v := v, recovered := true } :: older))

theorem rep_enter {args : List AV} {Bs : St} {keep : List Nat} {V : Vals} {M : Mem} {w : World} {passed : List Nat} {vs : List Value} (n : Nat) (hn : args.length ≤ n) (hBs : ∀ n c, Bs.get n = some c → n % 2 = 1)
    (hw : RepW (.of w passed M V keep 0) Bs V M w) (hd : DenL V M args vs) :
    Rep (.of w passed M V keep n) (slotsOf 0 args ++ Bs) { tmps := vs.toArray ++ Array.replicate (n - vs.toArray.size) undef, defers := [] } w := by
  refine ⟨V, M, ⟨fun t x ht => ?_, ?_, rfl⟩, ?_⟩
  · rw [St.get_append] at ht
    cases hg : (slotsOf 0 args).get (sl t) with
    | none =>
      rw [hg] at ht
      have := hBs _ _ ht
      unfold sl at this; omega
    | some c =>
      rw [hg] at ht
      simp only [Option.some.injEq] at ht
      subst ht
      obtain ⟨_, h2⟩ := slotsOf_get args 0 t x hg
      simp only [Nat.sub_zero] at h2
      have hlt : t < vs.length := by have := (List.getElem?_eq_some_iff.1 h2).1; rw [← hd.len]; exact this
      exact ⟨vs[t], by simp [Array.getElem?_append, hlt], hd.at' t x _ h2 (List.getElem?_eq_getElem hlt)⟩
  · have := hd.len
    simp only [Array.size_append, List.size_toArray, Array.size_replicate]
    show _ = n
    omega
  · refine (hw.env (E' := .of w passed M V keep n) rfl rfl rfl rfl rfl).blks_only fun l B hl => ?_
    rw [St.get_append, slotsOf_bk] at hl
    exact hl

theorem dSpec_of {f : FuncId} {fn : Func} {rest : Code} {id a b : Nat} {ts : Array TypeId} {ty ty' : TypeId} {pos pos' : String} {af af' : Array Edge} {args : List AV} {Bs Bs' : St} {keep : List Nat} {u u' : FrameMode} {x : Value} (hf : P.funcs[f]? = some fn)
    (hb : fn.body = some (.seq (.region id #[⟨some a, .call ⟨.builtin .recover, #[], ts⟩, ty, pos, af, none⟩, ⟨some b, .assign (.tmp a), ty', pos', af', none⟩] false) rest))
    (hn : args.length ≤ fn.ntmps) (hBs : ∀ n c, Bs.get n = some c → n % 2 = 1) (ha : a < fn.ntmps) (hbn : b < fn.ntmps) (hres : fn.results = #[]) (hu : Recovers u x u')
    (h : ∀ E : Env, E.keep = keep → E.nt = fn.ntmps → WPA P {} E rest ((sl b, .av (.d (.v x))) :: (slotsOf 0 args ++ Bs).del (sl a)) fun e S' => (e = .normal ∨ e = .ret) ∧ ∀ l B, Bs'.get (bk l) = some (.blk B) → S'.get (bk l) = some (.blk B)) :
    DSpec P f args Bs Bs' u u' keep := by
  intro V M w passed vs hw hd
  refine callsD_of_wpS hf hb fun c₀ cs hm => ?_
  have hrep := rep_enter fn.ntmps hn hBs hw hd
  generalize hA : ({ tmps := vs.toArray ++ Array.replicate (fn.ntmps - vs.toArray.size) undef, defers := [] } : Act) = A at hrep ⊢
  refine wpS_seq (wpS_region ?_)
  have hrec : ∀ w, (execOp A.eval ⟨some a, .call ⟨.builtin .recover, #[], ts⟩, ty, pos, af, none⟩).run P w = .ok .recover w := fun w => by
    simp [execOp, resolve, invoke, builtin, Sem.run_bind, Sem.run_pure, Result.andThen]
  have hR : recoverD (c₀ :: cs) = match u with | .returning => none | _ => some (x, { c₀ with mode := u' } :: cs) := by
    cases hu with
    | calm => simp [recoverD, hm]
    | caught v older => simp [recoverD, hm]
  have key : ∀ cs', wpOpsS P #[⟨some a, .call ⟨.builtin .recover, #[], ts⟩, ty, pos, af, none⟩, ⟨some b, .assign (.tmp a), ty', pos', af', none⟩] (Exit.thenS (rest.wpS P (bodyPostS P fn c₀ cs fun e m w' => ∃ v V' M', e = .returned v ∧ m = u' ∧ RepW (.of w passed M V keep 0) Bs' V' M' w')) (bodyPostS P fn c₀ cs fun e m w' => ∃ v V' M', e = .returned v ∧ m = u' ∧ RepW (.of w passed M V keep 0) Bs' V' M' w'))
      [1] (A.put (some a) x) cs' w ↔ rest.wpS P (bodyPostS P fn c₀ cs fun e m w' => ∃ v V' M', e = .returned v ∧ m = u' ∧ RepW (.of w passed M V keep 0) Bs' V' M' w') ((A.put (some a) x).put (some b) ((A.put (some a) x).eval (.tmp a))) cs' w := by
    intro cs'
    simp [wpOpsS, execOp, Region.wanted, Oper.upon, Sem.run_pure, Exit.thenS]
  have hA1 : a < A.tmps.size := by
    obtain ⟨_, _, hr, _⟩ := hrep
    rw [hr.size]; exact ha
  have hev : (A.put (some a) x).eval (.tmp a) = x := by
    simp [Act.eval, Act.put, hA1]
  have hrep2 : Rep (.of w passed M V keep fn.ntmps) ((sl b, .av (.d (.v x))) :: (slotsOf 0 args ++ Bs).del (sl a)) ((A.put (some a) x).put (some b) x) w := by
    obtain ⟨V1, M1, h1, h2⟩ := hrep
    have h3 : RepA (.of w passed M V keep fn.ntmps) ((slotsOf 0 args ++ Bs).del (sl a)) V1 M1 (A.put (some a) x) := ⟨fun t y e => by
      rw [St.get_del] at e
      by_cases hta : sl a = sl t
      · rw [if_pos hta] at e; cases e
      · rw [if_neg hta] at e
        obtain ⟨v, hv, hdv⟩ := h1.slots t y e
        refine ⟨v, ?_, hdv⟩
        have : a ≠ t := fun e => hta (by rw [e])
        simp [Act.put, this, hv], by simp [Act.put, h1.size], h1.defers⟩
    have h4 := repA_slot h3 b (.d (.v x)) x hbn (.d _ _ (.v _))
    refine ⟨V1, M1, ⟨fun t y e => h4.slots t y ?_, h4.size, h4.defers⟩, h2.blks_only fun l B e => ?_⟩
    · rw [get_cons] at e
      rw [upd_one]
      exact e
    · rw [get_cons, if_neg (sl_ne_bk b l), St.get_del, if_neg (sl_ne_bk a l)] at e
      exact e
  have hrest : ∀ cs', cs' = { c₀ with mode := u' } :: cs → rest.wpS P (bodyPostS P fn c₀ cs fun e m w' => ∃ v V' M', e = .returned v ∧ m = u' ∧ RepW (.of w passed M V keep 0) Bs' V' M' w') ((A.put (some a) x).put (some b) x) cs' w := by
    intro cs' hcs
    refine wpS_of_wp ?_
    have := wpIn_wide.1 (h (.of w passed M V keep fn.ntmps) rfl rfl _ w hrep2.m)
    refine Code.wp_mono ?_ this
    rintro e a' w' (⟨S', ⟨he, hB⟩, hrm⟩ | ⟨y, hy, _⟩)
    · obtain ⟨V', M', hA', hW'⟩ := hrm.plain rfl
      have hfin : ∃ v V' M', Ending.returned (Value.tuple #[]) = .returned v ∧ u' = u' ∧ RepW (.of w passed M V keep 0) Bs' V' M' w' := ⟨_, V', M', rfl, rfl, (hW'.env (E' := .of w passed M V keep 0) rfl rfl rfl rfl rfl).blks_only hB⟩
      have hdf : a'.defers = [] := hA'.defers
      have hrun : (results fn a'.tmps).run P w' = .ok (.tuple #[]) w' := by
        rw [results_eq, hres]
        simp [Sem.run_pure, Sem.run_bind, Result.andThen]
      rcases he with rfl | rfl
      · exact ⟨hdf, u', hcs, _, hrun, hfin⟩
      · exact ⟨hdf, u', hcs, _, hrun, hfin⟩
    · cases hy
  show wpOpsS P _ _ (List.range 2) A (c₀ :: cs) w
  have e2 : List.range 2 = [0, 1] := rfl
  rw [e2]
  unfold wpOpsS
  have hw0 : Region.wanted (⟨some a, .call ⟨.builtin .recover, #[], ts⟩, ty, pos, af, none⟩ : Oper) (yielded #[⟨some a, .call ⟨.builtin .recover, #[], ts⟩, ty, pos, af, none⟩, ⟨some b, .assign (.tmp a), ty', pos', af', none⟩] A.tmps) = true := by simp [Region.wanted]
  simp only [List.getElem?_toArray, List.getElem?_cons_zero, hw0, if_true, hrec]
  cases hu with
  | calm =>
    simp only at hR
    rw [hR]
    refine (key (c₀ :: cs)).2 ?_
    rw [hev]
    exact hrest _ (by rw [← hm])
  | caught v older =>
    simp only at hR
    rw [hR]
    refine (key _).2 ?_
    rw [hev]
    exact hrest _ rfl

section
variable {x y : Operand} {t t' ty : TypeId} {pos : String} {af : Array Edge} {gd : Option (Nat × Bool)} {d : Option Nat} {c : Bool}
/-- A type assertion that holds. -/
theorem Pure.assertIs {u : Value} {k : TypeDesc} (hu : P.underlying t' = some k) (hk : ∀ m, k ≠ .interface m) (e1 : Ev S c x (.d (.v (.iface t' u)))) : Pure P S [] ⟨d, .typeAssert x t t' false, ty, pos, af, gd⟩ c (.d (.v u)) := by
  refine ⟨(fun _ h => nomatch h), fun E V M a w h hc => ?_⟩
  have h1 := h.val (by simp [Op.operands]) e1
  generalize a.eval = ρ at *
  refine ⟨u, ?_, .d _ _ (.v _)⟩
  have : (Instr.typeAssert (.iface t' u) t t' false).run P w = .ok u w := by
    unfold Instr.typeAssert
    simp only [Sem.run_bind, run_underlying hu, Result.andThen]
    cases k <;> first | (exact absurd rfl (hk _)) | simp [Sem.run_pure]
  simp [execOp, h1, Sem.run_bind, this, Result.andThen, Sem.run_pure]
/-- x != nil, of an interface value. -/
theorem Pure.neNil {u : Value} {b : Bool} (hu : P.underlying t = some (.interface (P.methodsAt t))) (e1 : Ev S c x (.d (.v u))) (hb : (u = .nilIface ∧ b = false) ∨ (∃ k z, u = .iface k z) ∧ b = true) : Pure P S [] ⟨d, .binOp .neq t x (.const .nilIface) t', ty, pos, af, gd⟩ c (bv b) := by
  refine ⟨(fun _ h => nomatch h), fun E V M a w h hc => ?_⟩
  have h1 := h.val (by simp [Op.operands]) e1
  have h2 : a.eval (.const .nilIface) = .nilIface := rfl
  generalize a.eval = ρ at *
  refine ⟨.bool b, ?_, .d _ _ (.v _)⟩
  rcases hb with ⟨rfl, rfl⟩ | ⟨⟨k, z, rfl⟩, rfl⟩
  · simp only [execOp, h1, h2, eqGuard_nil_constR, Sem.run_bind, Sem.run_pure, Result.andThen, run_neq_nil_nil w t hu]
  · have : eqGuard .neq t x (.const .nilIface) (.iface k z) .nilIface = pure () := rfl
    simp only [execOp, h1, h2, this, Sem.run_bind, Sem.run_pure, Result.andThen, run_neq_held_nil w t k z hu]
end

theorem swp_swpB (a b : Nat) : ∀ S : St, (∀ p ∈ S, p.1 % 2 = 1) → (S.swp a b).swp a b = S
  | [], _ => rfl
  | (n, c) :: r, hr => by
    have hn : n % 2 = 1 := hr (n, c) (by simp)
    simp only [St.swp, cont_swp]
    have : bk (trn a b (bk (trn a b (n / 2)) / 2)) = n := by
      have : bk (trn a b (n / 2)) / 2 = trn a b (n / 2) := by unfold bk; omega
      rw [this, trn_trn]; unfold bk; omega
    rw [this, swp_swpB a b r (fun p hp => hr p (by simp [hp]))]
/-- A panic's contract under swapped names. -/
theorem PSpec.as {f : FuncId} {args : List AV} {Bs : St} {ch : List PanicEntry} (a b : Nat) (h : PSpec P f args Bs ch) (h1 : blocksOnly Bs = true) {args' : List AV} {Cs : St} (e1 : AV.swps a b args = args') (e2 : Bs.swp a b = Cs) : PSpec P f args' Cs ch := by
  subst e1; subst e2
  intro V M w passed vs hw hd
  have hw1 := hw.swp a b (St.swp_odd a b Bs)
  rw [swp_swpB a b Bs (odd_mem h1)] at hw1
  have hd1 : DenL (V.swp a b) M args vs := ⟨by have := hd.len; simpa [swps_map] using this, fun j x y hx hy => by
    have := (hd.at' j (x.swp a b) y (by simp [swps_map, hx]) hy).swp a b
    rwa [swp_swp] at this⟩
  refine (h (V.swp a b) M w passed vs hw1 hd1).mono ?_
  rintro e w' ⟨rfl, hf⟩
  exact ⟨rfl, ⟨hf.os, hf.tape, hf.output, hf.size, hf.block⟩⟩

/-- A new slice that is handed back, as immutable data. -/
theorem FnSpec.frozen {f : FuncId} {args : List AV} {l n len : Nat} {cols : List Col} {g : Nat → List D} (h : FnSpec P f args [] (.own l len) [(bk l, .blk (.app n len cols))] []) (hg : ∀ i, i < len → cols.map (Col.at · i) = g i) : FnSpec P f args [] (.d (.rows n len g)) [] [] := by
  intro V M w passed vs hw hd
  refine (h V M w passed vs hw hd).mono ?_
  rintro e w' ⟨v, V', M', rfl, hv, hw'⟩
  have ha : RepA (.of w passed M V [] 0) [(bk l, .blk (.app n len cols))] V' M' { tmps := #[], defers := [] } := ⟨fun t x e => by
    rw [get_cons, if_neg (Ne.symm (sl_ne_bk t l))] at e
    simp [St.get] at e, rfl, rfl⟩
  obtain ⟨M2, hle, hden, _, hw2⟩ := rep_freeze (l := l) (n := n) (len := len) (cs := cols) ha hw' (by rw [get_cons, if_pos rfl])
  refine ⟨v, V', M2, rfl, ?_, hw2.blks_only fun m B e => by simp [St.get] at e⟩
  have := hden v hv
  cases this with
  | d _ _ h => exact .d _ _ (denD_rowsLe h hg)

/-! A frame behind its last statement. -/
theorem RepW.thenW {V : Vals} {M : Mem} {w0 w w' : World} {passed0 passed : List Nat} {M0 : Mem} {V0 V1 : Vals} {keep : List Nat} {T : St} {V' : Vals} {M' : Mem} (h1 : RepW E S V M w) (h0 : E.w0 = w0) (hp0 : E.passed = passed0) (hM0 : E.M0 = M0) (hp : ∀ b ∈ passed, ∃ l, HasB V S l ∧ V.ρ l = b)
    (h2 : RepW (.of w passed M V1 keep 0) T V' M' w') : RepW (.of w0 passed0 M0 V0 [] 0) [] V' M' w' := by
  have hf := h2.frame
  have hg := h1.frame
  rw [← h0, ← hp0, ← hM0]
  exact
    { blks := fun l B e => by simp [St.get] at e
      inj := fun l l' a => by obtain ⟨⟨B, e⟩, _⟩ := a; simp [St.get] at e
      sep := fun l a => by obtain ⟨⟨B, e⟩, _⟩ := a; simp [St.get] at e
      fresh := fun l a => by obtain ⟨⟨B, e⟩, _⟩ := a; simp [St.get] at e
      bd := fun l a => by obtain ⟨⟨B, e⟩, _⟩ := a; simp [St.get] at e
      mem := h2.mem
      mle := Mem.le_trans h1.mle h2.mle
      mnew := fun b o h => by
        have hws : E.w0.heap.size ≤ w.heap.size := hg.size
        rcases h2.mnew b o h with h | h | h
        · exact h1.mnew b o h
        · exact .inr (.inl (Nat.le_trans hws h))
        · obtain ⟨l, hl, rfl⟩ := hp b h
          exact .inr (h1.fresh l hl)
      keep := fun l hl => by cases hl
      frame := ⟨hf.os.trans hg.os, hf.tape.trans hg.tape, hf.output.trans hg.output, Nat.le_trans hg.size hf.size, fun b hb hnp => by
        have hb' : b < w.heap.size := Nat.lt_of_lt_of_le hb hg.size
        have := hf.block b hb' (fun hbp => by
          obtain ⟨l, hl, rfl⟩ := hp b hbp
          rcases h1.fresh l hl with h | h
          · exact absurd hb (Nat.not_lt.2 h)
          · exact hnp h)
        rw [this]; exact hg.block b hb hnp⟩ }

/-- The deferred closure g, called in mode u over these blocks, leads to this result. -/
def Closes (P : Program) (g : FuncId) (a b la lb : Nat) (rs : List ResultVar) (res : AV) (u : FrameMode) (B : St) : Prop :=
  u ≠ .run ∧ ∃ (m : FrameMode) (B' : St), settle m = .returning ∧ blocksOnly B = true ∧ blocksOnly B' = true ∧ (∀ p ∈ B, ∃ C, p.2 = .blk C) ∧ DSpec P g [.loc la 0, .loc lb 0] B B' u m [la, lb] ∧
    (∃ xs, ResVars P ((sl a, .av (.loc la 0)) :: (sl b, .av (.loc lb 0)) :: B') rs xs ∧ ∃ r, r = resOf xs ∧ ∀ V M v, Den V M r v → Den V M res v)

/-- **A contract of a function that defers a closure over two of its variables.** -/
theorem fnSpec_of_defer {f g : FuncId} {fn : Func} {r0 rest : Code} {id t a b la lb : Nat} {dd : Option Nat} {ts : Array TypeId} {ty ty' : TypeId} {pos pos' : String} {af af' : Array Edge} {args : List AV} {res : AV} {rs : List ResultVar} {S1 : St}
    (hf : P.funcs[f]? = some fn)
    (hb : fn.body = some (.seq r0 (.seq (.region id #[⟨some t, .makeFunc (.func g) #[] #[.tmp a, .tmp b], ty, pos, af, none⟩, ⟨dd, .defer ⟨.value (.tmp t), #[], ts⟩, ty', pos', af', none⟩] false) rest)))
    (hrs : fn.results = rs.toArray) (hn : args.length ≤ fn.ntmps) (ht : t < fn.ntmps) (hdd : dd = none) (hg : enterOK P g = true)
    (h0 : ∀ E : Env, E.keep = [] → E.nt = fn.ntmps → WPA P {} E r0 (slotsOf 0 args) fun e S' => e = .normal ∧ S1.le S')
    (ha1 : S1.get (sl a) = some (.av (.loc la 0))) (hb1 : S1.get (sl b) = some (.av (.loc lb 0))) (ht1 : S1.get (sl t) = none)
    (h1 : ∀ E : Env, E.keep = [la, lb] → E.nt = fn.ntmps → WPA P ro E rest S1 fun e S' => (e = .normal ∨ e = .ret) ∧ ∃ B2, St.le ((sl a, .av (.loc la 0)) :: (sl b, .av (.loc lb 0)) :: B2) S' ∧ Closes P g a b la lb rs res .returning B2)
    (hro : ro.round = none) (hma : ro.marks = false) (hpan : ∀ y, ro.pan = some y → ∃ B3, y.2 = (sl a, .av (.loc la 0)) :: (sl b, .av (.loc lb 0)) :: B3 ∧ Closes P g a b la lb rs res (.panicking y.1) B3) :
    FnSpec P f args [] res [] [] := by
  intro V M w passed vs hw hd
  refine calls_of_wp_defers hf hb ?_
  have hrep := rep_enter (Bs := []) fn.ntmps hn (fun n c e => by simp [St.get] at e) hw hd
  generalize hA : ({ tmps := vs.toArray ++ Array.replicate (fn.ntmps - vs.toArray.size) undef, defers := [] } : Act) = A at hrep ⊢
  rw [List.append_nil] at hrep
  refine wpIn_wide.1 (wpIn_seq (wpIn_mono (h0 _ rfl rfl A w hrep.m) ?_))
  rintro e a1 w1 (⟨S', ⟨rfl, hle⟩, hr1⟩ | ⟨x, hx, _⟩)
  case inr => cases hx
  have hr1 := (hr1.plain rfl).weaken hle
  obtain ⟨V1, M1, hA1, hW1⟩ := hr1
  obtain ⟨va, hva, hda⟩ := hA1.slots a _ ha1
  obtain ⟨vb, hvb, hdb⟩ := hA1.slots b _ hb1
  have hsz := hA1.size
  refine wpIn_seq (wpIn_region ?_)
  -- the closure is made and laid by
  have hev : (execOp a1.eval ⟨some t, .makeFunc (.func g) #[] #[.tmp a, .tmp b], ty, pos, af, none⟩).run P w1 = .ok (.value (.func (.func g) #[] #[va, vb])) w1 := by
    simp [execOp, Instr.makeFunc, Sem.run_bind, Sem.run_pure, Result.andThen, Act.eval, Array.getD_eq_getD_getElem?, hva, hvb]
  have hlt : t < a1.tmps.size := by rw [hsz]; exact ht
  have hdv : (execOp (a1.put (some t) (.func (.func g) #[] #[va, vb])).eval ⟨dd, .defer ⟨.value (.tmp t), #[], ts⟩, ty', pos', af', none⟩).run P w1 = .ok (.defer { target := .fn (.func g) #[va, vb], args := #[] }) w1 := by
    have : (a1.put (some t) (.func (.func g) #[] #[va, vb])).eval (.tmp t) = .func (.func g) #[] #[va, vb] := by simp [Act.eval, Act.put, hlt]
    simp [execOp, resolve, Deferred.ofValue, this, Sem.run_bind, Sem.run_pure, Result.andThen]
  show wpOpsIn _ 0 P _ _ (List.range 2) a1 w1
  have e2 : List.range 2 = [0, 1] := rfl
  rw [e2]
  have hstep : Rep { w0 := w, passed := passed, M0 := M, V0 := V1, keep := [la, lb], nt := fn.ntmps, dfs := [{ target := .fn (.func g) #[va, vb], args := #[] }] } S1 { (a1.put (some t) (.func (.func g) #[] #[va, vb])) with defers := [{ target := .fn (.func g) #[va, vb], args := #[] }] } w1 := by
    refine ⟨V1, M1, ⟨fun s y e => ?_, by simp [Act.put, hsz], rfl⟩, ?_⟩
    · obtain ⟨v, hv, hdv⟩ := hA1.slots s y e
      have hst : t ≠ s := fun e' => by subst e'; rw [ht1] at e; cases e
      exact ⟨v, by simp [Act.put, hst, hv], hdv⟩
    · exact { blks := hW1.blks, inj := hW1.inj, sep := hW1.sep, fresh := hW1.fresh, bd := hW1.bd, mem := hW1.mem, mle := hW1.mle, mnew := hW1.mnew, keep := fun l _ => ⟨rfl, rfl⟩, frame := ⟨hW1.frame.os, hW1.frame.tape, hW1.frame.output, hW1.frame.size, hW1.frame.block⟩ }
  have hrest := h1 _ rfl rfl _ w1 hstep.m
  have hdef : a1.defers = [] := hA1.defers
  have hops : wpOpsIn Fence.wide 0 P #[⟨some t, .makeFunc (.func g) #[] #[.tmp a, .tmp b], ty, pos, af, none⟩, ⟨dd, .defer ⟨.value (.tmp t), #[], ts⟩, ty', pos', af', none⟩] (Exit.then (rest.wpIn Fence.wide 0 P (bodyPostD P fn fun e w' => ∃ v V' M', e = .returned v ∧ Den V' M' res v ∧ RepW (.of w passed M V [] 0) [] V' M' w')) (bodyPostD P fn fun e w' => ∃ v V' M', e = .returned v ∧ Den V' M' res v ∧ RepW (.of w passed M V [] 0) [] V' M' w')) [0, 1] a1 w1 := by
    rw [wpOpsIn_cons]
    unfold wpOpIn
    simp only [List.getElem?_toArray, List.getElem?_cons_zero]
    rw [if_pos (by simp [Region.wanted])]
    refine ⟨fun f _ => trivial, ?_⟩
    rw [Oper.semAt_eq _ _ _ (fun d h => by cases h), hev]
    rw [Oper.uponIn_value]
    rw [wpOpsIn_cons]
    unfold wpOpIn
    simp only [List.getElem?_toArray, List.getElem?_cons_succ, List.getElem?_cons_zero]
    rw [if_pos (by simp [Region.wanted])]
    refine ⟨fun f _ => trivial, ?_⟩
    have hsem : Oper.semAt Fence.wide.round (a1.put (some t) (.func (.func g) #[] #[va, vb])).eval ⟨dd, .defer ⟨.value (.tmp t), #[], ts⟩, ty', pos', af', none⟩ = execOp (a1.put (some t) (.func (.func g) #[] #[va, vb])).eval ⟨dd, .defer ⟨.value (.tmp t), #[], ts⟩, ty', pos', af', none⟩ := Oper.semAt_none _ _
    rw [hsem, hdv, Oper.uponIn_defer]
    unfold wpOpsIn
    show rest.wpIn Fence.wide 0 P _ _ _
    have hact : ({ (a1.put (some t) (.func (.func g) #[] #[va, vb])) with defers := { target := .fn (.func g) #[va, vb], args := #[] } :: (a1.put (some t) (.func (.func g) #[] #[va, vb])).defers }.put dd undef : Act) = { (a1.put (some t) (.func (.func g) #[] #[va, vb])) with defers := [{ target := .fn (.func g) #[va, vb], args := #[] }] } := by
      subst hdd
      simp [Act.put, hdef]
    simp only [hact]
    have hFW : FW ro = Fence.wide := by simp only [FW, hro]; rfl
    rw [hFW] at hrest
    refine wpIn_mono hrest ?_
    -- at the end
    have hend : ∀ (u : FrameMode) (B : St) (a' : Act) (w' : World), Closes P g a b la lb rs res u B →
        Rep { w0 := w, passed := passed, M0 := M, V0 := V1, keep := [la, lb], nt := fn.ntmps, dfs := [{ target := .fn (.func g) #[va, vb], args := #[] }] } ((sl a, .av (.loc la 0)) :: (sl b, .av (.loc lb 0)) :: B) a' w' →
        Leaves P fn a'.tmps (fun e w' => ∃ v V' M', e = .returned v ∧ Den V' M' res v ∧ RepW (.of w passed M V [] 0) [] V' M' w') a'.defers u w' := by
      rintro u B a' w' ⟨hu, m, B', hm, hB, hB', hwB, hd, xs, hxs, r, rfl, hrr⟩ ⟨V2, M2, hA2, hW2⟩
      rw [hA2.defers]
      have hkla := hW2.keep la (by simp)
      have hklb := hW2.keep lb (by simp)
      have hea : va = .pointer (some ⟨V1.ρ la, 0, none⟩) := by cases hda; rfl
      have heb : vb = .pointer (some ⟨V1.ρ lb, 0, none⟩) := by cases hdb; rfl
      have hget : ∀ l C, B.get (bk l) = some (.blk C) → St.get ((sl a, .av (.loc la 0)) :: (sl b, .av (.loc lb 0)) :: B) (bk l) = some (.blk C) := fun l C e => by
        rw [get_cons, if_neg (sl_ne_bk a l), get_cons, if_neg (sl_ne_bk b l)]; exact e
      have hWB := hW2.blks_only hget
      have hps : RepW (.of w' ((labs B).filter (fun l => (V2.κ l).isSome) |>.map V2.ρ) M2 V2 [la, lb] 0) B V2 M2 w' :=
        { blks := hWB.blks, inj := hWB.inj, sep := hWB.sep
          fresh := fun l hl => .inr (by
            obtain ⟨⟨C, e⟩, k⟩ := hl
            have hmem := St.mem_of_get e
            refine List.mem_map.2 ⟨l, List.mem_filter.2 ⟨?_, by cases hx : V2.κ l <;> simp_all⟩, rfl⟩
            exact List.mem_map.2 ⟨_, hmem, by unfold bk; show (2 * l + 1) / 2 = l; omega⟩)
          bd := hWB.bd, mem := hWB.mem, mle := Mem.le_refl _, mnew := fun b o h => .inl h, keep := fun l _ => ⟨rfl, rfl⟩, frame := ⟨rfl, rfl, rfl, Nat.le_refl _, fun _ _ _ => rfl⟩ }
      have hargs : DenL V2 M2 [.loc la 0, .loc lb 0] [va, vb] := ⟨rfl, fun j x y hx hy => by
        match j with
        | 0 =>
          simp only [List.getElem?_cons_zero, Option.some.injEq] at hx hy
          subst hx; subst hy
          rw [hea, ← hkla.1]; exact .loc la 0
        | 1 =>
          simp only [List.getElem?_cons_succ, List.getElem?_cons_zero, Option.some.injEq] at hx hy
          subst hx; subst hy
          rw [heb, ← hklb.1]; exact .loc lb 0
        | j + 2 => simp at hx⟩
      refine leaves_cons hu (by show (callFunc g (#[] ++ #[va, vb])).run P w' = _; rw [run_callFunc hg]) ?_
      refine (hd V2 M2 w' _ [va, vb] hps hargs).mono ?_
      rintro e2 m2 w2 ⟨v2, V3, M3, rfl, rfl, hW3⟩
      show Leaves P fn a'.tmps _ [] (settle m2) w2
      rw [hm]
      have hk3 := hW3.keep la (by simp)
      have hk3b := hW3.keep lb (by simp)
      have hA3 : RepA (.of w' ((labs B).filter (fun l => (V2.κ l).isSome) |>.map V2.ρ) M2 V2 [la, lb] fn.ntmps) ((sl a, .av (.loc la 0)) :: (sl b, .av (.loc lb 0)) :: B') V3 M3 { a' with defers := [] } := ⟨fun s y e => by
        rw [get_cons] at e
        by_cases has : sl a = sl s
        · rw [if_pos has] at e
          injection e with e; injection e with e; subst e
          obtain ⟨v, hv, hdv⟩ := hA2.slots a (.loc la 0) (by rw [get_cons, if_pos rfl])
          rw [← sl_inj has]
          refine ⟨v, hv, ?_⟩
          cases hdv
          have : V2.ρ la = V3.ρ la := hk3.1.symm
          rw [this]; exact .loc la 0
        · rw [if_neg has, get_cons] at e
          by_cases hbs : sl b = sl s
          · rw [if_pos hbs] at e
            injection e with e; injection e with e; subst e
            obtain ⟨v, hv, hdv⟩ := hA2.slots b (.loc lb 0) (by
              rw [get_cons]
              by_cases hab : sl a = sl b
              · exact absurd (hab.trans hbs) has
              · rw [if_neg hab, get_cons, if_pos rfl])
            rw [← sl_inj hbs]
            refine ⟨v, hv, ?_⟩
            cases hdv
            have : V2.ρ lb = V3.ρ lb := hk3b.1.symm
            rw [this]; exact .loc lb 0
          · rw [if_neg hbs] at e
            have := odd_mem hB' _ (St.mem_of_get e)
            simp only [sl] at this; omega, hA2.size, rfl⟩
      have hW3' : RepW (.of w' ((labs B).filter (fun l => (V2.κ l).isSome) |>.map V2.ρ) M2 V2 [la, lb] fn.ntmps) ((sl a, .av (.loc la 0)) :: (sl b, .av (.loc lb 0)) :: B') V3 M3 w2 :=
        (hW3.env (E' := .of w' ((labs B).filter (fun l => (V2.κ l).isSome) |>.map V2.ρ) M2 V2 [la, lb] fn.ntmps) rfl rfl rfl rfl rfl).blks_only fun l C e => by
          rw [get_cons, if_neg (sl_ne_bk a l), get_cons, if_neg (sl_ne_bk b l)] at e; exact e
      obtain ⟨v, hv, hdv⟩ := results_run hA3 hW3' hrs hxs
      refine ⟨v, hv, v, V3, M3, rfl, hrr _ _ _ hdv, ?_⟩
      refine RepW.thenW hW2 rfl rfl rfl (fun c hc => ?_) hW3
      obtain ⟨l, hl, rfl⟩ := List.mem_map.1 hc
      obtain ⟨hl1, hl2⟩ := List.mem_filter.1 hl
      obtain ⟨p, hp, rfl⟩ := List.mem_map.1 hl1
      have hodd := odd_mem hB p hp
      have hpk : bk (p.1 / 2) = p.1 := by unfold bk; omega
      have hin : ∃ C, B.get (bk (p.1 / 2)) = some C := by
        rw [hpk]
        have key : ∀ T : St, p ∈ T → ∃ C, T.get p.1 = some C := by
          intro T
          induction T with
          | nil => intro h; cases h
          | cons q T ih =>
            intro h
            obtain ⟨n, c⟩ := q
            rw [get_cons]
            by_cases hn : n = p.1
            · exact ⟨c, by rw [if_pos hn]⟩
            · rw [if_neg hn]
              rcases List.mem_cons.1 h with rfl | h
              · exact absurd rfl hn
              · exact ih h
        exact key B hp
      obtain ⟨C, hC⟩ := hin
      obtain ⟨C', hC'⟩ := hwB _ (St.mem_of_get hC)
      simp only at hC'
      subst hC'
      refine ⟨p.1 / 2, ⟨⟨C', hget _ _ hC⟩, ?_⟩, rfl⟩
      cases hx : V2.κ (p.1 / 2) <;> simp_all
    rintro e a' w' (⟨S', ⟨he, B2, hle, hcl⟩, hr⟩ | ⟨y, hy, rfl, hr⟩)
    · rcases he with rfl | rfl
      · exact hend .returning B2 a' w' hcl ((hr.plain hma).weaken hle)
      · exact hend .returning B2 a' w' hcl ((hr.plain hma).weaken hle)
    · obtain ⟨B3, hB3, hcl⟩ := hpan y hy
      rw [hB3] at hr
      exact hend (.panicking y.1) B3 a' w' hcl (hr.plain hma)
  exact hops

end Go.Proofs.Ytcnikeonaklkoaa
