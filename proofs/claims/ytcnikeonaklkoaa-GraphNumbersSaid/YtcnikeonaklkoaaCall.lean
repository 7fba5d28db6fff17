/- Functions' contracts on abstract states: out of a body's walk; at a call. No program in sight. -/
import Derived.Test.YtcnikeonaklkoaaMake
namespace Go.Proofs.Ytcnikeonaklkoaa
open Go
set_option linter.unusedVariables false
set_option linter.unusedSimpArgs false
variable {P : Program} {S : St} {ro : Ro} {ops : Array Oper}

/-- A call of f: on these arguments, over these blocks (Bs), it returns res and leaves the blocks Bs'. 'keep': labels whose blocks stay where they are. -/
def FnSpec (P : Program) (f : FuncId) (args : List AV) (Bs : St) (res : AV) (Bs' : St) (keep : List Nat) : Prop :=
  ∀ (V : Vals) (M : Mem) (w : World) (passed : List Nat) (vs : List Value), RepW (.of w passed M (V) (keep) 0) Bs V M w → DenL V M args vs →
    Calls P f vs.toArray w fun e w' => ∃ v V' M', e = .returned v ∧ Den V' M' res v ∧ RepW (.of w passed M (V) (keep) 0) Bs' V' M' w'

theorem RepW.env {E E' : Env} {S : St} {V : Vals} {M : Mem} {w : World} (h : RepW E S V M w) (h1 : E'.w0 = E.w0) (h2 : E'.passed = E.passed) (h3 : E'.M0 = E.M0) (h4 : E'.V0 = E.V0) (h5 : E'.keep = E.keep) : RepW E' S V M w := by
  obtain ⟨w0, p, M0, V0, k, n, _⟩ := E
  obtain ⟨w0', p', M0', V0', k', n', _⟩ := E'
  simp only at h1 h2 h3 h4 h5
  subst h1; subst h2; subst h3; subst h4; subst h5
  exact { blks := h.blks, inj := h.inj, sep := h.sep, fresh := h.fresh, bd := h.bd, mem := h.mem, mle := h.mle, mnew := h.mnew, keep := h.keep, frame := ⟨h.frame.os, h.frame.tape, h.frame.output, h.frame.size, h.frame.block⟩ }
/-- Slots do not count for the world. -/
theorem RepW.blks_only {E : Env} {S T : St} {V : Vals} {M : Mem} {w : World} (h : RepW E S V M w) (hb : ∀ l B, T.get (bk l) = some (.blk B) → S.get (bk l) = some (.blk B)) : RepW E T V M w := by
  have hh : ∀ l, HasB V T l → HasB V S l := fun l ⟨⟨B, e⟩, k⟩ => ⟨⟨B, hb l B e⟩, k⟩
  exact { blks := fun l B e => h.blks l B (hb l B e), inj := fun l l' a b => h.inj l l' (hh l a) (hh l' b), sep := fun l a => h.sep l (hh l a), fresh := fun l a => h.fresh l (hh l a), bd := fun l a => h.bd l (hh l a),
          mem := h.mem, mle := h.mle, mnew := h.mnew, keep := h.keep, frame := h.frame }

/-- A result variable's value. -/
inductive ResVar (P : Program) (S : St) : ResultVar → AV → Prop
  | tmp {t : Nat} {x : AV} (h : S.get (sl t) = some (.av x)) : ResVar P S (.tmp t) x
  | cellN {a l n : Nat} {ty : TypeId} {cs : List AV} (h : S.get (sl a) = some (.av (.loc l 0))) (hb : S.get (bk l) = some (.blk (.cells cs))) (ht : tyOK P ty true n = true) (hn : n = cs.length) : ResVar P S (.cell a ty) (mkAgg cs)
  | cell1 {a l n : Nat} {ty : TypeId} {cs : List AV} {x : AV} (h : S.get (sl a) = some (.av (.loc l 0))) (hb : S.get (bk l) = some (.blk (.cells cs))) (ht : tyOK P ty false n = true) (hx : cs[0]? = some x) : ResVar P S (.cell a ty) x
  | cellD {a l n : Nat} {ty : TypeId} {ds : List D} (h : S.get (sl a) = some (.av (.loc l 0))) (hb : S.get (bk l) = some (.blk (.data ds))) (ht : tyOK P ty true n = true) (hn : n = ds.length) : ResVar P S (.cell a ty) (.d (.agg ds))
  | cellD1 {a l n : Nat} {ty : TypeId} {ds : List D} {x : D} (h : S.get (sl a) = some (.av (.loc l 0))) (hb : S.get (bk l) = some (.blk (.data ds))) (ht : tyOK P ty false n = true) (hx : ds[0]? = some x) : ResVar P S (.cell a ty) (.d x)
  | arr {a l len : Nat} {ty : TypeId} {r : Col} (h : S.get (sl a) = some (.av (.loc l 0))) (hb : S.get (bk l) = some (.blk (.cols 1 len [r]))) (ht : tyOK P ty true len = true) : ResVar P S (.cell a ty) (.d (.agg ((List.range len).map r.at)))
inductive ResVars (P : Program) (S : St) : List ResultVar → List AV → Prop
  | nil : ResVars P S [] []
  | cons {r : ResultVar} {x : AV} {rs : List ResultVar} {xs : List AV} (h : ResVar P S r x) (t : ResVars P S rs xs) : ResVars P S (r :: rs) (x :: xs)
def resOf : List AV → AV
  | [x] => x
  | xs => .tup xs

def resRun (tmps : Array Value) : ResultVar → Sem Value
  | .tmp t => pure (tmps.getD t undef)
  | .cell b t => do loadVar t (← asAddr (tmps.getD b undef))
theorem results_eq (fn : Func) (tmps : Array Value) : results fn tmps = (do let vs ← fn.results.mapM (resRun tmps); pure (if h : vs.size = 1 then vs[0] else .tuple vs)) := by
  have : (fun (r : ResultVar) => (match r with | .tmp t => pure (tmps.getD t undef) | .cell a t => do loadVar t (← asAddr (tmps.getD a undef)) : Sem Value)) = resRun tmps := by
    funext r; cases r <;> rfl
  rw [← this]
  rfl

theorem resVar_run {E : Env} {S : St} {V : Vals} {M : Mem} {a : Act} {w : World} (ha : RepA E S V M a) (hw : RepW E S V M w) {r : ResultVar} {x : AV} (h : ResVar P S r x) :
    ∃ v, Sem.run P (resRun a.tmps r) w = .ok v w ∧ Den V M x v := by
  cases h with
  | tmp h =>
    obtain ⟨v, hv, hd⟩ := ha.slots _ _ h
    exact ⟨v, by simp [resRun, Array.getD_eq_getD_getElem?, hv], hd⟩
  | @cellN b l n ty cs h hb ht hn =>
    obtain ⟨v, hv, hd⟩ := ha.slots _ _ h
    obtain ⟨_, vs, tt, hh, hs, hd'⟩ := hw.blks _ _ hb
    cases hd with
    | loc _ _ =>
      have hc : ∀ k, k < n → w.cell? ⟨V.ρ l, 0 + k, none⟩ = some (vs.getD k undef) := fun k hk => by
        have : k < vs.size := by omega
        simp [World.cell?, hh, this, Array.getD]
      refine ⟨.agg ((List.range n).map fun k => vs.getD k undef).toArray, ?_, den_mkAgg (.agg _ _ (by simp [hn]) ?_)⟩
      · simp only [resRun, Array.getD_eq_getD_getElem?, hv, Option.getD_some, Sem.run_bind, asAddr, Sem.run_pure, Result.andThen, run_loadVarN ht hc]
      · intro k x y hx hy
        simp only [List.getElem?_map, Option.map_eq_some_iff] at hy
        obtain ⟨k', hk', rfl⟩ := hy
        have hk : k < n := by have := (List.getElem?_eq_some_iff.1 hx).1; omega
        rw [List.getElem?_range hk] at hk'
        injection hk' with hk'; subst hk'
        have : k < vs.size := by omega
        exact hd' k x _ hx (by simp [this, Array.getD])
  | @cell1 b l n ty cs x h hb ht hx =>
    obtain ⟨v, hv, hd⟩ := ha.slots _ _ h
    obtain ⟨_, vs, tt, hh, hs, hd'⟩ := hw.blks _ _ hb
    cases hd with
    | loc _ _ =>
      have hj : 0 < vs.size := by have := (List.getElem?_eq_some_iff.1 hx).1; omega
      have hc : w.cell? ⟨V.ρ l, 0, none⟩ = some vs[0] := by simp [World.cell?, hh, hj]
      refine ⟨vs[0], ?_, hd' 0 x _ hx (Array.getElem?_eq_getElem hj)⟩
      simp only [resRun, Array.getD_eq_getD_getElem?, hv, Option.getD_some, Sem.run_bind, asAddr, Sem.run_pure, Result.andThen, run_loadVar1 ht hc]
  | @cellD b l n ty ds h hb ht hn =>
    obtain ⟨v, hv, hd⟩ := ha.slots _ _ h
    obtain ⟨_, vs, tt, hh, hs, hd'⟩ := hw.blks _ _ hb
    simp only [List.length_map] at hs
    cases hd with
    | loc _ _ =>
      have hc : ∀ k, k < n → w.cell? ⟨V.ρ l, 0 + k, none⟩ = some (vs.getD k undef) := fun k hk => by
        have : k < vs.size := by omega
        simp [World.cell?, hh, this, Array.getD]
      refine ⟨.agg ((List.range n).map fun k => vs.getD k undef).toArray, ?_, .d _ _ (.agg _ _ (by simp [hn]) ?_)⟩
      · simp only [resRun, Array.getD_eq_getD_getElem?, hv, Option.getD_some, Sem.run_bind, asAddr, Sem.run_pure, Result.andThen, run_loadVarN ht hc]
      · intro k x y hx hy
        simp only [List.getElem?_map, Option.map_eq_some_iff] at hy
        obtain ⟨k', hk', rfl⟩ := hy
        have hk : k < n := by have := (List.getElem?_eq_some_iff.1 hx).1; omega
        rw [List.getElem?_range hk] at hk'
        injection hk' with hk'; subst hk'
        have : k < vs.size := by omega
        have hd2 := hd' k (.d x) (vs.getD k undef) (by simp [hx]) (by simp [this, Array.getD])
        cases hd2 with | d _ _ h => exact h
  | @cellD1 b l n ty ds x h hb ht hx =>
    obtain ⟨v, hv, hd⟩ := ha.slots _ _ h
    obtain ⟨_, vs, tt, hh, hs, hd'⟩ := hw.blks _ _ hb
    simp only [List.length_map] at hs
    cases hd with
    | loc _ _ =>
      have hj : 0 < vs.size := by have := (List.getElem?_eq_some_iff.1 hx).1; omega
      have hc : w.cell? ⟨V.ρ l, 0, none⟩ = some vs[0] := by simp [World.cell?, hh, hj]
      refine ⟨vs[0], ?_, hd' 0 (.d x) _ (by simp [hx]) (Array.getElem?_eq_getElem hj)⟩
      simp only [resRun, Array.getD_eq_getD_getElem?, hv, Option.getD_some, Sem.run_bind, asAddr, Sem.run_pure, Result.andThen, run_loadVar1 ht hc]
  | @arr b l len ty r h hb ht =>
    obtain ⟨v, hv, hd⟩ := ha.slots _ _ h
    obtain ⟨_, vs, tt, hh, hs, _, _, hd'⟩ := hw.blks _ _ hb
    cases hd with
    | loc _ _ =>
      have hc : ∀ k, k < len → w.cell? ⟨V.ρ l, 0 + k, none⟩ = some (vs.getD k undef) := fun k hk => by
        have : k < vs.size := by omega
        simp [World.cell?, hh, this, Array.getD]
      refine ⟨.agg ((List.range len).map fun k => vs.getD k undef).toArray, ?_, .d _ _ (.agg _ _ (by simp) ?_)⟩
      · simp only [resRun, Array.getD_eq_getD_getElem?, hv, Option.getD_some, Sem.run_bind, asAddr, Sem.run_pure, Result.andThen, run_loadVarN ht hc]
      · intro k x y hx hy
        simp only [List.getElem?_map, Option.map_eq_some_iff] at hx hy
        obtain ⟨k1, hk1, rfl⟩ := hx
        obtain ⟨k2, hk2, rfl⟩ := hy
        rw [hk1] at hk2
        injection hk2 with hk2; subst hk2
        have hk : k1 < len := by simpa using List.mem_of_getElem? hk1
        obtain ⟨v', hv', hd''⟩ := hd' k1 0 r hk (by simp)
        simp only [Nat.mul_one, Nat.add_zero] at hv'
        simpa [Array.getD_eq_getD_getElem?, hv'] using hd''

theorem resVars_run {E : Env} {S : St} {V : Vals} {M : Mem} {a : Act} {w : World} (ha : RepA E S V M a) (hw : RepW E S V M w) {rs : List ResultVar} {xs : List AV} (h : ResVars P S rs xs) :
    ∃ vs, Sem.run P (rs.mapM (resRun a.tmps)) w = .ok vs w ∧ DenL V M xs vs := by
  induction h with
  | nil => exact ⟨[], rfl, ⟨rfl, fun j x y hx _ => by simp at hx⟩⟩
  | @cons r x rs xs h t ih =>
    obtain ⟨v, hv, hd⟩ := resVar_run ha hw h
    obtain ⟨vs, hvs, hds⟩ := ih
    refine ⟨v :: vs, ?_, ⟨by simp [hds.len], fun j x' y hx hy => ?_⟩⟩
    · rw [List.mapM_cons, Sem.run_bind, hv]
      simp only [Result.andThen, Sem.run_bind, hvs, Sem.run_pure]
    · cases j with
      | zero => simp at hx hy; subst hx; subst hy; exact hd
      | succ j => simp at hx hy; exact hds.at' j _ _ hx hy

theorem results_run {E : Env} {S : St} {V : Vals} {M : Mem} {a : Act} {w : World} (ha : RepA E S V M a) (hw : RepW E S V M w) {fn : Func} {rs : List ResultVar} {xs : List AV} (hr : fn.results = rs.toArray) (h : ResVars P S rs xs) :
    ∃ v, (results fn a.tmps).run P w = .ok v w ∧ Den V M (resOf xs) v := by
  obtain ⟨vs, hvs, hd⟩ := resVars_run ha hw h
  have hm : Sem.run P (rs.toArray.mapM (resRun a.tmps)) w = .ok vs.toArray w := by
    rw [List.mapM_toArray]
    simp only [← bind_pure_comp, Sem.run_bind]
    rw [hvs]
    rfl
  refine ⟨if h : vs.toArray.size = 1 then vs.toArray[0] else .tuple vs.toArray, ?_, ?_⟩
  · rw [results_eq, hr, Sem.run_bind, hm]
    rfl
  · match xs, vs, hd with
    | [], [], hd => exact .tup [] [] rfl (fun j x y hx _ => by simp at hx)
    | [x], [v], hd => exact hd.at' 0 x v rfl rfl
    | x :: x' :: xs, v :: v' :: vs, hd =>
      rw [dif_neg (by simp)]
      exact .tup _ _ hd.len hd.at'
    | [], _ :: _, hd => exact absurd hd.len (by simp)
    | [_], [], hd => exact absurd hd.len (by simp)
    | [_], _ :: _ :: _, hd => exact absurd hd.len (by simp)
    | _ :: _ :: _, [], hd => exact absurd hd.len (by simp)
    | _ :: _ :: _, [_], hd => exact absurd hd.len (by simp)

def slotsOf : Nat → List AV → St
  | _, [] => []
  | k, x :: r => (sl k, .av x) :: slotsOf (k + 1) r
theorem slotsOf_get : ∀ (l : List AV) (k t : Nat) (x : AV), (slotsOf k l).get (sl t) = some (.av x) → k ≤ t ∧ l[t - k]? = some x
  | [], k, t, x, h => by simp [slotsOf, St.get] at h
  | y :: r, k, t, x, h => by
    simp only [slotsOf, St.get, nbeq] at h
    by_cases hk : sl k = sl t
    · have := sl_inj hk; subst this
      simp at h; subst h
      simp
    · simp only [hk, decide_false, cond_false] at h
      obtain ⟨h1, h2⟩ := slotsOf_get r (k + 1) t x h
      refine ⟨by omega, ?_⟩
      have : t - k = (t - (k + 1)) + 1 := by omega
      rw [this]; simpa using h2
theorem slotsOf_bk : ∀ (l : List AV) (k m : Nat), (slotsOf k l).get (bk m) = none
  | [], _, _ => rfl
  | y :: r, k, m => by simp only [slotsOf, St.get, nbeq, sl_ne_bk k m, decide_false, cond_false]; exact slotsOf_bk r (k + 1) m
theorem St.get_append (S T : St) (n : Nat) : St.get (S ++ T) n = match S.get n with | some c => some c | none => T.get n := by
  induction S with
  | nil => rfl
  | cons x r ih =>
    obtain ⟨m, c⟩ := x
    simp only [List.cons_append, St.get]
    cases Nat.beq m n with
    | true => rfl
    | false => exact ih

/-- **A contract, out of the body's walk.** -/
theorem fnSpec_of {f : FuncId} {fn : Func} {c : Code} {args : List AV} {Bs Bs' : St} {res : AV} {keep : List Nat} {rs : List ResultVar} (hf : P.funcs[f]? = some fn) (hb : fn.body = some c) (hrs : fn.results = rs.toArray)
    (hn : args.length ≤ fn.ntmps) (hBs : ∀ n c, Bs.get n = some c → n % 2 = 1)
    (h : ∀ E : Env, E.keep = keep → E.nt = fn.ntmps → WPA P {} E c (slotsOf 0 args ++ Bs) fun e S' => (e = .normal ∨ e = .ret) ∧ (∃ xs, ResVars P S' rs xs ∧ res = resOf xs) ∧ ∀ l B, Bs'.get (bk l) = some (.blk B) → S'.get (bk l) = some (.blk B)) :
    FnSpec P f args Bs res Bs' keep := by
  intro V M w passed vs hw hd
  refine calls_of_wp hf hb ?_
  let E : Env := (.of w passed M (V) (keep) fn.ntmps)
  have hrep : Rep E (slotsOf 0 args ++ Bs) { tmps := vs.toArray ++ Array.replicate (fn.ntmps - vs.toArray.size) undef, defers := [] } w := by
    refine ⟨V, M, ⟨fun t x ht => ?_, ?_, rfl⟩, ?_⟩
    · rw [St.get_append] at ht
      cases hg : (slotsOf 0 args).get (sl t) with
      | none =>
        rw [hg] at ht
        have := hBs _ _ ht
        unfold sl at this; omega
      | some c =>
        rw [hg] at ht
        simp only [Option.some.injEq] at ht
        subst ht
        obtain ⟨_, h2⟩ := slotsOf_get args 0 t x hg
        simp only [Nat.sub_zero] at h2
        have hlt : t < vs.length := by have := (List.getElem?_eq_some_iff.1 h2).1; rw [← hd.len]; exact this
        exact ⟨vs[t], by simp [Array.getElem?_append, hlt], hd.at' t x _ h2 (List.getElem?_eq_getElem hlt)⟩
    · have := hd.len
      simp only [Array.size_append, List.size_toArray, Array.size_replicate]
      show _ = fn.ntmps
      omega
    · refine (hw.env (E' := E) rfl rfl rfl rfl rfl).blks_only fun l B hl => ?_
      rw [St.get_append, slotsOf_bk] at hl
      exact hl
  have := wpIn_wide.1 (h E rfl rfl _ w hrep.m)
  refine Code.wp_mono ?_ this
  rintro e a w' (⟨S', ⟨he, ⟨xs, hxs, rfl⟩, hbs'⟩, hrm⟩ | ⟨x, hp, _⟩)
  case inr => cases hp
  obtain ⟨V', M', ha', hw'⟩ := hrm.plain rfl
  obtain ⟨v, hv, hdv⟩ := results_run ha' hw' hrs hxs
  have hpost : bodyPost P fn (fun e w' => ∃ v V' M', e = .returned v ∧ Den V' M' (resOf xs) v ∧ RepW (.of w passed M (V) (keep) 0) Bs' V' M' w') .normal a w' :=
    ⟨ha'.defers, v, hv, v, V', M', rfl, hdv, (hw'.env (E' := (.of w passed M (V) (keep) 0)) rfl rfl rfl rfl rfl).blks_only hbs'⟩
  rcases he with rfl | rfl
  · exact hpost
  · exact hpost

/-! At a call. -/
def enterOK (P : Program) (f : FuncId) : Bool := match P.funcs[f]? with
  | some fn => !(fn.name == "runtime.NumGoroutine") && fn.body.isSome
  | none => false
theorem run_callFunc {f : FuncId} (h : enterOK P f = true) (args : Array Value) (w : World) : (callFunc f args).run P w = .ok (.enter f args) w := by
  unfold enterOK at h
  split at h
  · rename_i fn hf
    simp only [Bool.and_eq_true, Bool.not_eq_true'] at h
    have hb : fn.body.isNone = false := by cases hfb : fn.body <;> simp_all
    simp only [callFunc, Sem.run_bind]
    have : (program : Sem Program).run P w = .ok P w := rfl
    rw [this]
    simp only [Result.andThen, hf, h.1, hb, Bool.false_eq_true, if_false]
    rfl
  · cases h

theorem callsIn_fw {f : FuncId} {args : Array Value} {w : World} {R : Ending → World → Prop} (h : Calls P f args w R) : CallsIn (FW ro) 0 P f args w R := (callsIn_wide (n := 0)).2 h

theorem wpIn_of_enter {o : Oper} {a : Act} {w : World} {f : FuncId} {args : Array Value} {K : Act → World → Prop} {Q : Exit → Act → World → Prop} (hd : ∀ d, o.op ≠ .defer d)
    (hr : (execOp a.eval o).run P w = .ok (.enter f args) w) (hk : Calls P f args w fun e w' => ∃ v, e = .returned v ∧ K (a.put o.dst v) w') : o.wpIn (FW ro) 0 P a w K Q := by
  refine ⟨about_fw o a w, ?_⟩
  rw [Oper.semAt_eq _ _ _ hd, hr]
  refine ⟨fw_depth ro 0, callsIn_fw (hk.mono ?_)⟩
  rintro e w' ⟨v, rfl, hv⟩
  exact hv

/-- The arguments at a call: what is passed, then what was captured. -/
structure CallArgs (S : St) (c : Bool) (cl : Call) (g : FuncId) (args : List AV) : Prop where
  out : ∃ (f : Operand) (cs xs : List AV), cl.callee = .value f ∧ Ev S c f (.fn g cs) ∧ args = xs ++ cs ∧ xs.length = cl.args.size ∧ ∀ (j : Nat) (x : Operand) (y : AV), cl.args[j]? = some x → xs[j]? = some y → Ev S c x y

theorem DenL.append {V : Vals} {M : Mem} {l m : List AV} {vs ws : List Value} (h : DenL V M l vs) (k : DenL V M m ws) : DenL V M (l ++ m) (vs ++ ws) where
  len := by simp [h.len, k.len]
  at' := fun j x y hx hy => by
    by_cases hj : j < l.length
    · rw [List.getElem?_append_left hj] at hx
      rw [List.getElem?_append_left (by rw [← h.len]; exact hj)] at hy
      exact h.at' j x y hx hy
    · rw [List.getElem?_append_right (by omega)] at hx
      rw [List.getElem?_append_right (by rw [← h.len]; omega), ← h.len] at hy
      exact k.at' _ x y hx hy

theorem run_call {E : Env} {V : Vals} {M : Mem} {a : Act} {w : World} {o : Oper} {cl : Call} {bl : List Nat} {c : Bool} {g : FuncId} {args : List AV} (ho : o.op = .call cl) (h : Given E S o bl c V M a w) (hc : CallArgs S c cl g args) (hg : enterOK P g = true) :
    ∃ vs, (execOp a.eval o).run P w = .ok (.enter g vs.toArray) w ∧ DenL V M args vs := by
  obtain ⟨f, cs, xs, hf, hef, rfl, hl, he⟩ := hc.out
  have hfo : f ∈ o.op.operands := by rw [ho]; simp [Op.operands, Call.operands, hf]
  have h1 := h.opd f hfo _ hef
  have hargs : DenL V M xs (cl.args.toList.map a.eval) := ⟨by simpa using hl, fun j x y hx hy => by
    simp only [List.getElem?_map, Option.map_eq_some_iff] at hy
    obtain ⟨z, hz, rfl⟩ := hy
    have hz' : cl.args[j]? = some z := by simpa using hz
    refine h.opd z ?_ _ (he j z x hz' hx)
    rw [ho]
    simp only [Op.operands, Call.operands, Array.mem_append]
    exact .inr (Array.mem_of_getElem? hz')⟩
  generalize hv : a.eval f = v at h1
  cases h1 with
  | fn _ _ vs hlen hd =>
    refine ⟨cl.args.toList.map a.eval ++ vs, ?_, hargs.append ⟨hlen, hd⟩⟩
    generalize a.eval = ρ at *
    simp only [execOp, ho, resolve, hf, hv, Deferred.ofValue, Sem.run_bind, Sem.run_pure, Result.andThen, Array.empty_append, invoke, run_callFunc hg]
    simp

/-- A call that touches no block of ours; also under a guard. -/
theorem axOp_callP {S0 : St} {o : Oper} {cl : Call} {t : Nat} {gs : List Nat} {c : Bool} {g : FuncId} {args : List AV} {res : AV} (ho : o.op = .call cl) (hdst : o.dst = some t) (hgd : guardIn ops S0 o = some (gs, c)) (hca : CallArgs S0 c cl g args) (hg : enterOK P g = true)
    (hs : c = true → FnSpec P g args [] res [] []) (hm : ∀ l, ¬ Ment res l) :
    AxOp P ro ops o ⟨opNames o ++ gs ++ ([] : List Nat).map bk, S0, [(sl t, some (.av (wrapGd o c res)))], []⟩ := by
  intro E S a w hag _ hok ⟨V, M, ha, hw⟩ Q hpn
  have ht : t < E.nt := hok.2 t (by simp [Ax.names])
  have hwant := wanted_of (E := E) hag hgd (fun n hn => by simp [hn]) ha
  unfold stepIn
  cases c with
  | false =>
    rw [if_neg (by rw [hwant]; simp)]
    refine ⟨about_fw o a w, ?_⟩
    rw [hdst]
    have hw' : wrapGd o false res = .gd false res := by
      unfold wrapGd
      split
      · rename_i h; unfold guardIn at hgd; rw [h] at hgd; simp at hgd
      · rfl
    rw [hw']
    exact ⟨V, M, repA_slot ha t _ undef ht (.gd _ _ _ (fun h => by cases h) (fun _ => rfl)), repW_slot hw t _⟩
  | true =>
    rw [if_pos hwant]
    obtain ⟨vs, hr, hd⟩ := run_call ho (given_of hag (fun n hn => by simp [hn]) (fun l hl => by cases hl) rfl ha hw : Given E S0 o [] true V M a w) hca hg
    refine wpIn_of_enter (fun d h => by rw [ho] at h; cases h) hr ?_
    have hpre : RepW (.of w [] M (V) ([]) 0) [] V M w :=
      { blks := fun l B e => by simp [St.get] at e, inj := fun l l' ⟨⟨B, e⟩, _⟩ => by simp [St.get] at e, sep := fun l ⟨⟨B, e⟩, _⟩ => by simp [St.get] at e, fresh := fun l ⟨⟨B, e⟩, _⟩ => by simp [St.get] at e, bd := fun l ⟨⟨B, e⟩, _⟩ => by simp [St.get] at e,
        mem := hw.mem, mle := Mem.le_refl M, mnew := fun b o h => .inl h, keep := (fun l hl => nomatch hl), frame := ⟨rfl, rfl, rfl, Nat.le_refl _, fun _ _ _ => rfl⟩ }
    refine (hs rfl V M w [] vs hpre hd).mono ?_
    rintro e w' ⟨v, V', M', rfl, hdv, hw'⟩
    refine ⟨v, rfl, ?_⟩
    rw [hdst]
    have hfr := hw'.frame
    have hdv' : Den V M' (wrapGd o true res) v := by
      have h1 : Den V M' res v := hdv.mono (Mem.le_refl _) fun l hl => absurd hl (hm l)
      unfold wrapGd
      split
      · exact h1
      · exact .gd _ _ _ (fun _ => h1) (fun h => by cases h)
    have hkeepB : ∀ l, HasB V S l → w'.heap[V.ρ l]? = w.heap[V.ρ l]? := fun l hl => hfr.block _ (hw.bd l hl) (by simp)
    have ha' : RepA E S V M' a := ⟨fun t x e => let ⟨u, hu, hd⟩ := ha.slots t x e; ⟨u, hu, hd.mono hw'.mle fun _ _ => ⟨rfl, rfl⟩⟩, ha.size, ha.defers⟩
    have hwn : RepW E S V M' w' :=
      { blks := fun l B e => by
          have h0 := (hw.blks l B e)
          have hk : V.κ l ≠ none → w'.heap[V.ρ l]? = w.heap[V.ρ l]? := fun hk => hkeepB l ⟨⟨B, e⟩, hk⟩
          have h1 : BlkAt V M w' l B := h0.kept hk
          cases B with
          | cells cs => obtain ⟨a1, vs, t, a2, a3, a4⟩ := h1; exact ⟨a1, vs, t, a2, a3, fun j x y hx hy => (a4 j x y hx hy).mono hw'.mle fun _ _ => ⟨rfl, rfl⟩⟩
          | data ds => obtain ⟨a1, vs, t, a2, a3, a4⟩ := h1; exact ⟨a1, vs, t, a2, a3, fun j x y hx hy => (a4 j x y hx hy).mono hw'.mle fun _ _ => ⟨rfl, rfl⟩⟩
          | cols n len cs => obtain ⟨a1, vs, t, a2, a3, a4, a5, a6⟩ := h1; exact ⟨a1, vs, t, a2, a3, a4, a5, fun i j c hi hc => let ⟨v, hv, hd⟩ := a6 i j c hi hc; ⟨v, hv, hd.mono hw'.mle⟩⟩
          | app n len cs =>
            obtain ⟨a1, a2, a3⟩ := h1
            refine ⟨a1, a2, ?_⟩
            split
            · rename_i hkn; rw [hkn] at a3; exact a3
            · rename_i cap hkn
              rw [hkn] at a3
              obtain ⟨b1, vs, t, b2, b3, b4, b5, b6⟩ := a3
              exact ⟨b1, vs, t, b2, b3, b4, b5, fun i j c hi hc => let ⟨v, hv, hd⟩ := b6 i j c hi hc; ⟨v, hv, hd.mono hw'.mle⟩⟩
          | lp h' ts => exact lpAt.turn h1 hw'.mle ⟨rfl, rfl⟩ (fun _ _ => ⟨rfl, rfl⟩) (fun _ => rfl)
          | appv cs => exact appvAt.turn h1 hw'.mle ⟨rfl, rfl⟩ (fun _ _ => ⟨rfl, rfl⟩) (fun _ => rfl)
        inj := hw.inj
        sep := fun l hl o => by
          cases hc : M' (V.ρ l) o with
          | none => rfl
          | some u =>
            rcases hw'.mnew (V.ρ l) o (by rw [hc]; simp) with h | h | h
            · exact absurd (hw.sep l hl o) h
            · have := hw.bd l hl
              have h : w.heap.size ≤ V.ρ l := h
              omega
            · cases h
        fresh := hw.fresh
        bd := fun l hl => Nat.lt_of_lt_of_le (hw.bd l hl) hfr.size
        mem := hw'.mem
        mle := Mem.le_trans hw.mle hw'.mle
        mnew := fun b o h => by
          rcases hw'.mnew b o h with h | h | h
          · exact hw.mnew b o h
          · have h : w.heap.size ≤ b := h
            exact .inr (.inl (Nat.le_trans hw.frame.size h))
          · cases h
        keep := hw.keep
        frame := ⟨hfr.os.trans hw.frame.os, hfr.tape.trans hw.frame.tape, hfr.output.trans hw.frame.output, Nat.le_trans hw.frame.size hfr.size, fun b hb hp => (hfr.block b (Nat.lt_of_lt_of_le hb hw.frame.size) (by simp)).trans (hw.frame.block b hb hp)⟩ }
    exact ⟨V, M', repA_slot ha' t _ v ht hdv', repW_slot hwn t _⟩

theorem Trace.callP {S0 S' : St} {o : Oper} {cl : Call} {r : List Oper} {L : List Ax} {t : Nat} {gs : List Nat} {c : Bool} {g : FuncId} {args : List AV} {res : D} (hs : c = true → FnSpec P g args [] (.d res) [] []) (ho : o.op = .call cl) (hdst : o.dst = some t) (hgd : guardIn ops S0 o = some (gs, c))
    (hca : CallArgs S0 c cl g args) (hg : enterOK P g = true)
    (h : Trace P ro ops r ((sl t, .av (wrapGd o c (.d res))) :: S0) L S') :
    Trace P ro ops (o :: r) S0 (⟨opNames o ++ gs ++ ([] : List Nat).map bk, S0, [(sl t, some (.av (wrapGd o c (.d res))))], []⟩ :: L) S' :=
  .cons (axOp_callP ho hdst hgd hca hg hs (fun l h => by cases h)) (fun _ _ => rfl) (fun l hl => by cases hl) (cons_upd S0 _ _) h
/-- A tuple of immutable data. -/
theorem ment_tup {l : List D} {m : Nat} : ¬ Ment (.tup (l.map .d)) m := by
  intro h
  cases h with
  | tup _ x _ hx h =>
    obtain ⟨y, _, rfl⟩ := List.mem_map.1 hx
    cases h
theorem Trace.callT {S0 S' : St} {o : Oper} {cl : Call} {r : List Oper} {L : List Ax} {t : Nat} {gs : List Nat} {c : Bool} {g : FuncId} {args : List AV} {res : AV} (hs : c = true → FnSpec P g args [] res [] []) (ho : o.op = .call cl) (hdst : o.dst = some t) (hgd : guardIn ops S0 o = some (gs, c))
    (hca : CallArgs S0 c cl g args) (hg : enterOK P g = true) (hm : ∃ l : List D, res = .tup (l.map .d))
    (h : Trace P ro ops r ((sl t, .av (wrapGd o c res)) :: S0) L S') :
    Trace P ro ops (o :: r) S0 (⟨opNames o ++ gs ++ ([] : List Nat).map bk, S0, [(sl t, some (.av (wrapGd o c res)))], []⟩ :: L) S' :=
  .cons (axOp_callP ho hdst hgd hca hg hs (fun l h => by obtain ⟨l', rfl⟩ := hm; exact ment_tup h)) (fun _ _ => rfl) (fun l hl => by cases hl) (cons_upd S0 _ _) h

end Go.Proofs.Ytcnikeonaklkoaa
