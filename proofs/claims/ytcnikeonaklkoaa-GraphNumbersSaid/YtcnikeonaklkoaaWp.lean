/- The walk on abstract states: the rules for the forms of code; operations that only compute; functions' contracts. No program in sight. -/
import Derived.Test.YtcnikeonaklkoaaTrace
import Derived.Deep.LoopGhost
namespace Go.Proofs.Ytcnikeonaklkoaa
open Go
set_option linter.unusedVariables false
set_option linter.unusedSimpArgs false
variable {P : Program} {ro : Ro} {ops : Array Oper} {E : Env}

/-! A range over a function leaves a mark among the deferred calls: what an activation holds, marks and all; and that whatever an operation does may be seen from the world where it began. -/
abbrev mark (m : Nat) : Deferred := { target := .collected m, args := #[] }
def RepM (ro : Ro) (E : Env) (S : St) (a : Act) (w : World) : Prop :=
  ∃ ms : List Nat, (ro.marks = false → ms = []) ∧ a.defers = ms.map mark ++ E.dfs ∧ (ms.Nodup ∧ ∀ m ∈ ms, E.w0.heap.size ≤ m ∧ w.heap[m]? = some (.deferred (some []))) ∧ Rep E S { a with defers := E.dfs } w
theorem Rep.m {S : St} {a : Act} {w : World} (h : Rep E S a w) : RepM ro E S a w := by
  obtain ⟨V, M, ha, hw⟩ := h
  refine ⟨[], fun _ => rfl, by simpa using ha.defers, ⟨List.nodup_nil, fun m hm => (nomatch hm)⟩, V, M, ⟨ha.slots, ha.size, rfl⟩, hw⟩
theorem RepM.plain {S : St} {a : Act} {w : World} (h : RepM ro E S a w) (hm : ro.marks = false) : Rep E S a w := by
  obtain ⟨ms, h0, h1, _, V, M, ha, hw⟩ := h
  have := h0 hm
  subst this
  exact ⟨V, M, ⟨ha.slots, ha.size, by simpa using h1⟩, hw⟩
theorem RepM.weaken {S S' : St} {a : Act} {w : World} (h : RepM ro E S a w) (hle : S'.le S) : RepM ro E S' a w := by
  obtain ⟨ms, h0, h1, h2, h3⟩ := h
  exact ⟨ms, h0, h1, h2, h3.weaken hle⟩

def livesOf (V : Vals) (S : St) : List Nat := ((S.map fun p => p.1 / 2).filter fun l => match S.get (bk l), V.κ l with | some (.blk _), some _ => true | _, _ => false).map V.ρ
theorem mem_lives {V : Vals} {S : St} {b : Nat} : b ∈ livesOf V S ↔ ∃ l, HasB V S l ∧ V.ρ l = b := by
  simp only [livesOf, List.mem_map, List.mem_filter]
  constructor
  · rintro ⟨l, ⟨_, h⟩, rfl⟩
    refine ⟨l, ?_, rfl⟩
    split at h
    · rename_i B k h1 h2; exact ⟨⟨B, h1⟩, by rw [h2]; simp⟩
    · cases h
  · rintro ⟨l, ⟨⟨B, hB⟩, hk⟩, rfl⟩
    refine ⟨l, ⟨⟨_, St.mem_of_get hB, by unfold bk; omega⟩, ?_⟩, rfl⟩
    cases hx : V.κ l with
    | none => exact absurd hx hk
    | some k => simp [hB]

def Env.at_ (E : Env) (S : St) (V : Vals) (M : Mem) (w : World) (ds : List Deferred) : Env := { w0 := w, passed := livesOf V S, M0 := M, V0 := V, keep := E.keep, nt := E.nt, dfs := ds }
theorem RepW.base {S : St} {V : Vals} {M : Mem} {w : World} (h : RepW E S V M w) (ds : List Deferred) : RepW (E.at_ S V M w ds) S V M w :=
  { blks := h.blks, inj := h.inj, sep := h.sep, fresh := fun l hl => .inr (mem_lives.2 ⟨l, hl, rfl⟩), bd := h.bd, mem := h.mem, mle := Mem.le_refl M, mnew := fun b o h => .inl h, keep := fun l _ => ⟨rfl, rfl⟩
    frame := ⟨rfl, rfl, rfl, Nat.le_refl _, fun _ _ _ => rfl⟩ }
/-- Two ways on end. -/
theorem RepW.comp {E2 : Env} {S S' : St} {V V' : Vals} {M M' : Mem} {w w' : World} (h : RepW E S V M w) (h2 : RepW E2 S' V' M' w') (e1 : E2.w0 = w) (e2 : E2.M0 = M) (e3 : E2.V0 = V) (e4 : ∀ l ∈ E.keep, l ∈ E2.keep) (e5 : ∀ b ∈ E2.passed, ∃ l, HasB V S l ∧ V.ρ l = b) : RepW E S' V' M' w' := by
  subst e1; subst e2; subst e3
  have hf := h2.frame
  have hp : ∀ b ∈ E2.passed, E.w0.heap.size ≤ b ∨ b ∈ E.passed := fun b hb => by
    obtain ⟨l, hl, rfl⟩ := e5 b hb
    exact h.fresh l hl
  exact
    { blks := h2.blks, inj := h2.inj, sep := h2.sep
      fresh := fun l hl => by
        rcases h2.fresh l hl with h3 | h3
        · exact .inl (Nat.le_trans h.frame.size h3)
        · exact hp _ h3
      bd := h2.bd, mem := h2.mem, mle := Mem.le_trans h.mle h2.mle
      mnew := fun b o hb => by
        rcases h2.mnew b o hb with h3 | h3 | h3
        · exact h.mnew b o h3
        · exact .inr (.inl (Nat.le_trans h.frame.size h3))
        · exact .inr (hp _ h3)
      keep := fun l hl => by
        have a := h2.keep l (e4 l hl)
        have b := h.keep l hl
        exact ⟨a.1.trans b.1, a.2.trans b.2⟩
      frame := ⟨hf.os.trans h.frame.os, hf.tape.trans h.frame.tape, hf.output.trans h.frame.output, Nat.le_trans h.frame.size hf.size, fun b hb hn => (hf.block b (Nat.lt_of_lt_of_le hb h.frame.size) fun hb' => by
        rcases hp b hb' with h3 | h3
        · omega
        · exact hn h3).trans (h.frame.block b hb hn)⟩ }

/-- From where it stands on: an environment of its own. -/
theorem RepM.from {S : St} {a : Act} {w : World} (h : RepM ro E S a w) : ∃ E2 : Env, E2.keep = E.keep ∧ E2.nt = E.nt ∧ Rep E2 S a w ∧ ∀ S' a' w', Rep E2 S' a' w' → RepM ro E S' a' w' := by
  obtain ⟨ms, h0, h1, h2, V, M, ha, hw⟩ := h
  refine ⟨E.at_ S V M w a.defers, rfl, rfl, ⟨V, M, ⟨ha.slots, ha.size, rfl⟩, hw.base _⟩, ?_⟩
  rintro S' a' w' ⟨V', M', ha', hw'⟩
  refine ⟨ms, h0, ha'.defers.trans h1, ⟨h2.1, fun m hm => ⟨(h2.2 m hm).1, ?_⟩⟩, V', M', ⟨ha'.slots, ha'.size, rfl⟩, hw.comp hw' rfl rfl rfl (fun _ h => h) fun b hb => mem_lives.1 hb⟩
  have h3 := (h2.2 m hm).2
  refine (hw'.frame.block m (Array.getElem?_eq_some_iff.1 h3).1 fun hb => ?_).trans h3
  obtain ⟨l, ⟨⟨B, hB⟩, hk⟩, he⟩ := mem_lives.1 hb
  have hblk := hw.blks l B hB
  cases B with
  | cells cs => obtain ⟨_, vs, t, hh, _⟩ := hblk; rw [he, h3] at hh; cases hh
  | data ds => obtain ⟨_, vs, t, hh, _⟩ := hblk; rw [he, h3] at hh; cases hh
  | cols n len cs => obtain ⟨_, vs, t, hh, _⟩ := hblk; rw [he, h3] at hh; cases hh
  | app n len cs =>
    obtain ⟨_, _, hh⟩ := hblk
    split at hh
    · rename_i h; exact absurd h hk
    · obtain ⟨_, vs, t, hh, _⟩ := hh; rw [he, h3] at hh; cases hh
  | lp h' ts => obtain ⟨_, fn, tmps, d, hh, _⟩ := hblk; rw [he, h3] at hh; cases hh
  | appv cs =>
    have hblk : appvAt V M w l cs := hblk
    unfold appvAt at hblk
    split at hblk
    · rename_i h; exact absurd h hk
    · obtain ⟨_, vs, t, hh, _⟩ := hblk; rw [he, h3] at hh; cases hh
theorem KeepOK.env {E2 : Env} {L : List Ax} (h : KeepOK E L) (h1 : E2.keep = E.keep) (h2 : E2.nt = E.nt) : KeepOK E2 L := fun A hA => ⟨by rw [h1]; exact (h A hA).1, by rw [h2]; exact (h A hA).2⟩

/-- What holds at an exit: the walk's own word; or a panic that the frame lets out. -/
def WPost (ro : Ro) (E : Env) (Q : Exit → St → Prop) : Exit → Act → World → Prop := fun e a w => (∃ S', Q e S' ∧ RepM ro E S' a w) ∨ ∃ x, ro.pan = some x ∧ e = .panic x.1 ∧ RepM ro E x.2 a w
def WPA (P : Program) (ro : Ro) (E : Env) (c : Code) (S : St) (Q : Exit → St → Prop) : Prop :=
  ∀ a w, RepM ro E S a w → c.wpIn (FW ro) 0 P (WPost ro E Q) a w

theorem WPost.mono {ro : Ro} {E : Env} {Q Q' : Exit → St → Prop} (hq : ∀ e S, Q e S → Q' e S) {e : Exit} {a : Act} {w : World} : WPost ro E Q e a w → WPost ro E Q' e a w
  | .inl ⟨S', q, r⟩ => .inl ⟨S', hq _ _ q, r⟩
  | .inr h => .inr h
theorem WPA.mono {c : Code} {S : St} {Q Q' : Exit → St → Prop} (h : WPA P ro E c S Q) (hq : ∀ e S, Q e S → Q' e S) : WPA P ro E c S Q' :=
  fun a w hr => wpIn_mono (h a w hr) fun e a w => WPost.mono hq
theorem WPA.weaken {c : Code} {S T : St} {Q : Exit → St → Prop} (h : WPA P ro E c T Q) (hle : T.le S) : WPA P ro E c S Q :=
  fun a w hr => h a w (hr.weaken hle)
theorem WPA.skip {S : St} {Q : Exit → St → Prop} (h : Q .normal S) : WPA P ro E .skip S Q := fun _ _ hr => wpIn_skip (.inl ⟨S, h, hr⟩)
theorem WPA.label {S : St} {Q : Exit → St → Prop} {l : Nat} (h : Q .normal S) : WPA P ro E (.label l) S Q := fun _ _ hr => wpIn_label (.inl ⟨S, h, hr⟩)
theorem WPA.exit {S : St} {Q : Exit → St → Prop} {l : Nat} (h : Q (.exit l) S) : WPA P ro E (.exit l) S Q := fun _ _ hr => wpIn_exit (.inl ⟨S, h, hr⟩)
theorem WPA.ret {S : St} {Q : Exit → St → Prop} (h : Q .ret S) : WPA P ro E .ret S Q := fun _ _ hr => wpIn_ret (.inl ⟨S, h, hr⟩)

def thenQ (K : St → Prop) (Q : Exit → St → Prop) : Exit → St → Prop
  | .normal, S => K S
  | e, S => Q e S
theorem WPA.seq {x y : Code} {S : St} {Q : Exit → St → Prop} (h : WPA P ro E x S (thenQ (fun S' => WPA P ro E y S' Q) Q)) : WPA P ro E (.seq x y) S Q :=
  fun a w hr => wpIn_seq (wpIn_mono (h a w hr) fun e a w hp => by
    rcases hp with ⟨S', q, r⟩ | ⟨x, hp, rfl, r⟩
    · cases e with
      | normal => exact q a w r
      | _ => exact .inl ⟨S', q, r⟩
    · exact .inr ⟨x, hp, rfl, r⟩)
/-- 'seq', with what holds in between typed out. -/
theorem WPA.seqM {x y : Code} {S : St} {Q : Exit → St → Prop} (M : St) (h : WPA P ro E x S (thenQ (fun S' => M.le S') Q)) (h' : WPA P ro E y M Q) : WPA P ro E (.seq x y) S Q :=
  WPA.seq (h.mono fun e S' q => by
    cases e with
    | normal => exact h'.weaken q
    | _ => exact q)

def blockQ (id : Nat) (Q : Exit → St → Prop) : Exit → St → Prop
  | .exit i, S => bif Nat.beq i id then Q .normal S else Q (.exit i) S
  | e, S => Q e S
theorem WPA.block {x : Code} {id : Nat} {S : St} {Q : Exit → St → Prop} (h : WPA P ro E x S (blockQ id Q)) : WPA P ro E (.block id x) S Q :=
  fun a w hr => wpIn_block (wpIn_mono (h a w hr) fun e a w hp => by
    rcases hp with ⟨S', q, r⟩ | ⟨x, hp, rfl, r⟩
    · cases e with
      | exit i =>
        simp only [Exit.inBlock]
        simp only [blockQ, nbeq] at q
        split
        · rename_i hi; simp only [hi, decide_true, cond_true] at q; exact .inl ⟨S', q, r⟩
        · rename_i hi; simp only [hi, decide_false, cond_false] at q; exact .inl ⟨S', q, r⟩
      | _ => exact .inl ⟨S', q, r⟩
    · exact .inr ⟨x, hp, rfl, r⟩)

/-! Operands. -/
def D.ofV : Value → D
  | .agg cs => .agg (cs.toList.map .v)
  | u => .v u
theorem den_ofV (M : Mem) (v : Value) : DenD M (D.ofV v) v := by
  cases v with
  | agg cs =>
    simp only [D.ofV]
    have := DenD.agg (M := M) (cs.toList.map .v) cs.toList (by simp) (by
      intro j x y hx hy
      simp only [List.getElem?_map, Option.map_eq_some_iff] at hx
      obtain ⟨z, hz, rfl⟩ := hx
      rw [hy] at hz
      injection hz with hz
      subst hz
      exact .v _)
    simpa using this
  | _ => exact .v _

def evalA (S : St) : Operand → Option AV
  | .tmp t => match S.get (sl t) with
    | some (.av x) => some x
    | _ => none
  | .const v => some (.d (D.ofV v))
  | .func f => some (.fn f [])
  | .global g => some (.d (.v (.pointer (some ⟨g, 0, none⟩))))

theorem den_eval {S : St} {V : Vals} {M : Mem} {a : Act} {x : Operand} {y : AV} (hs : ∀ t y, x = .tmp t → S.get (sl t) = some (.av y) → ∃ v, a.tmps[t]? = some v ∧ Den V M y v) (h : evalA S x = some y) : Den V M y (a.eval x) := by
  cases x with
  | tmp t =>
    simp only [evalA] at h
    split at h
    · rename_i z hz
      injection h with h; subst h
      obtain ⟨v, hv, hd⟩ := hs t _ rfl hz
      simp only [Act.eval, Array.getD_eq_getD_getElem?, hv, Option.getD_some]
      exact hd
    · cases h
  | const v => simp only [evalA] at h; injection h with h; subst h; exact .d _ _ (den_ofV M v)
  | func f => simp only [evalA] at h; injection h with h; subst h; exact .fn f [] [] rfl (fun j x y hx _ => by simp at hx)
  | global g => simp only [evalA] at h; injection h with h; subst h; exact .d _ _ (.v _)

/-- An operand's value where the operation's guard c holds. -/
inductive Ev (S : St) (c : Bool) (x : Operand) : AV → Prop
  | plain {y : AV} (h : evalA S x = some y) : Ev S c x y
  | gd {c' : Bool} {y : AV} (h : evalA S x = some (.gd c' y)) (hc : c = true → c' = true) : Ev S c x y

/-- What an operation may take for granted: what its operands are; what the blocks that it reads hold. -/
structure Given (E : Env) (S : St) (o : Oper) (bl : List Nat) (c : Bool) (V : Vals) (M : Mem) (a : Act) (w : World) : Prop where
  opd : ∀ x ∈ o.op.operands, ∀ y, Ev S c x y → Den V M y (a.eval x)
  blk : ∀ l ∈ bl, ∀ B, S.get (bk l) = some (.blk B) → BlkAt V M w l B
  mem : ∀ b o v, M b o = some v → w.cell? ⟨b, o, none⟩ = some v

/-- An operation that hands back one value and leaves the world alone. -/
def Pure (P : Program) (S : St) (bl : List Nat) (o : Oper) (c : Bool) (x : AV) : Prop :=
  (∀ d, o.op ≠ .defer d) ∧ ∀ E V M a w, Given E S o bl c V M a w → c = true → ∃ v, (execOp a.eval o).run P w = .ok (.value v) w ∧ Den V M x v

def opNames (o : Oper) : List Nat := o.op.operands.toList.filterMap fun | .tmp t => some (sl t) | _ => none
theorem mem_opNames {o : Oper} {t : Nat} (h : Operand.tmp t ∈ o.op.operands) : sl t ∈ opNames o := by
  simp only [opNames, List.mem_filterMap]
  exact ⟨.tmp t, by simpa using h, rfl⟩

/-- A guard's outcome: the Bool under which the operation is carried out. -/
def guardOf (w : Bool) : AV → Option Bool
  | .d (.v (.bool g)) => some (g == w)
  | .gd c (.d (.v (.bool g))) => some (c && (g == w))
  | _ => none

def guardIn (ops : Array Oper) (S : St) (o : Oper) : Option (List Nat × Bool) :=
  match o.guard with
  | none => some ([], true)
  | some (j, w) => match (ops[j]?).bind (·.dst) with
    | none => none
    | some t => match S.get (sl t) with
      | some (.av x) => (guardOf w x).map fun c => ([sl t], c)
      | _ => none

theorem given_of {S S0 : St} {V : Vals} {M : Mem} {a : Act} {w : World} {o : Oper} {bl : List Nat} {c : Bool} {rn : List Nat} (hag : ∀ n ∈ rn, S.get n = S0.get n) (h1 : ∀ n ∈ opNames o, n ∈ rn) (h2 : ∀ l ∈ bl, bk l ∈ rn)
    (hc : c = true) (ha : RepA E S V M a) (hw : RepW E S V M w) : Given E S0 o bl c V M a w where
  opd := fun x hx y hy => by
    have key : ∀ t y, x = .tmp t → S0.get (sl t) = some (.av y) → ∃ v, a.tmps[t]? = some v ∧ Den V M y v := fun t y e h => by
      subst e
      rw [← hag _ (h1 _ (mem_opNames hx))] at h
      exact ha.slots t y h
    cases hy with
    | plain h => exact den_eval key h
    | gd h hc' =>
      have := den_eval key h
      cases this with
      | gd _ _ _ h _ => exact h (hc' hc)
  blk := fun l hl B hB => hw.blks l B (by rw [hag _ (h2 l hl)]; exact hB)
  mem := hw.mem

theorem sl_inj {a b : Nat} (h : sl a = sl b) : a = b := by unfold sl at h; omega
theorem sl_ne_bk (a b : Nat) : sl a ≠ bk b := by unfold sl bk; omega

theorem upd_one (S : St) (n : Nat) (c : Option Cont) (m : Nat) : (S.upd [(n, c)]).get m = if n = m then c else S.get m := by
  rw [St.get_upd]; rfl

theorem repW_slot {S : St} {V : Vals} {M : Mem} {w : World} (h : RepW E S V M w) (t : Nat) (x : AV) : RepW E (S.upd [(sl t, some (.av x))]) V M w := by
  have hb : ∀ l, (S.upd [(sl t, some (.av x))]).get (bk l) = S.get (bk l) := fun l => by rw [upd_one, if_neg (sl_ne_bk t l)]
  have hh : ∀ l, HasB V (S.upd [(sl t, some (.av x))]) l → HasB V S l := fun l hl => ⟨by simpa only [hb] using hl.1, hl.2⟩
  exact { blks := fun l B e => h.blks l B (by rwa [hb] at e), inj := fun l l' a b => h.inj l l' (hh l a) (hh l' b), sep := fun l a => h.sep l (hh l a), fresh := fun l a => h.fresh l (hh l a), bd := fun l a => h.bd l (hh l a),
          mem := h.mem, mle := h.mle, mnew := h.mnew, keep := h.keep, frame := h.frame }

theorem repA_slot {S : St} {V : Vals} {M : Mem} {a : Act} (h : RepA E S V M a) (t : Nat) (x : AV) (v : Value) (ht : t < E.nt) (hd : Den V M x v) : RepA E (S.upd [(sl t, some (.av x))]) V M (a.put (some t) v) where
  slots := fun s y e => by
    rw [upd_one] at e
    by_cases hs : t = s
    · subst hs
      rw [if_pos rfl] at e
      injection e with e; injection e with e; subst e
      exact ⟨v, by simp [Act.put, h.size, ht], hd⟩
    · rw [if_neg (fun e => hs (sl_inj e))] at e
      obtain ⟨u, hu, hdu⟩ := h.slots s y e
      exact ⟨u, by simp [Act.put, hs, hu], hdu⟩
  size := by simp [Act.put, h.size]
  defers := h.defers

theorem about_fw (o : Oper) (a : Act) (w : World) : ∀ f, o.about P w a.eval = some f → (FW ro).fn f := fun f _ => fw_fn ro f

theorem wpIn_of_value {o : Oper} {a : Act} {w w' : World} {v : Value} {K : Act → World → Prop} {Q : Exit → Act → World → Prop} (hd : ∀ d, o.op ≠ .defer d)
    (hr : (execOp a.eval o).run P w = .ok (.value v) w') (hk : K (a.put o.dst v) w') : o.wpIn (FW ro) 0 P a w K Q := by
  refine ⟨about_fw o a w, ?_⟩
  rw [Oper.semAt_eq _ _ _ hd, hr]
  exact hk
theorem wpIn_of_skip {o : Oper} {a : Act} {w w' : World} {K : Act → World → Prop} {Q : Exit → Act → World → Prop} (hd : ∀ d, o.op ≠ .defer d)
    (hr : (execOp a.eval o).run P w = .ok .skip w') (hk : K (a.put o.dst undef) w') : o.wpIn (FW ro) 0 P a w K Q := by
  refine ⟨about_fw o a w, ?_⟩
  rw [Oper.semAt_eq _ _ _ hd, hr]
  exact hk

def wrapGd (o : Oper) (c : Bool) (x : AV) : AV := match o.guard with | none => x | some _ => .gd c x

/-- A guard decides whether the operation is carried out. -/
theorem wanted_of {S S0 : St} {V : Vals} {M : Mem} {a : Act} {o : Oper} {g : List Nat} {c : Bool} {rn : List Nat} (hag : ∀ n ∈ rn, S.get n = S0.get n) (hg : guardIn ops S0 o = some (g, c)) (h1 : ∀ n ∈ g, n ∈ rn)
    (ha : RepA E S V M a) : Region.wanted o (yielded ops a.tmps) = c := by
  unfold guardIn at hg
  unfold Region.wanted
  split at hg
  · rename_i h; rw [h]; injection hg with hg; injection hg with _ h2
  · rename_i j w h
    rw [h]
    split at hg
    · cases hg
    · rename_i t ht
      split at hg
      · rename_i x hx
        simp only [Option.map_eq_some_iff] at hg
        obtain ⟨c', hc', he⟩ := hg
        injection he with he1 he2
        subst he1; subst he2
        rw [← hag _ (h1 _ (by simp))] at hx
        obtain ⟨v, hv, hd⟩ := ha.slots t x hx
        have hy : yielded ops a.tmps j = (match (some v : Option Value) with | some (.bool b) => some b | _ => none) := by
          unfold yielded; rw [ht]; simp only [Option.bind_some, hv]; cases v <;> rfl
        simp only [hy]
        cases x with
        | d y =>
          cases y with
          | v z =>
            cases z with
            | bool b =>
              simp only [guardOf, Option.some.injEq] at hc'
              cases hd with
              | d _ _ h => cases h with | v _ => rw [← hc']; simp
            | _ => simp [guardOf] at hc'
          | _ => simp [guardOf] at hc'
        | gd e y =>
          cases y with
          | d y =>
            cases y with
            | v z =>
              cases z with
              | bool b =>
                simp only [guardOf, Option.some.injEq] at hc'
                cases hd with
                | gd _ _ _ h hu =>
                  cases e with
                  | true =>
                    have := h rfl
                    cases this with
                    | d _ _ h => cases h with | v _ => rw [← hc']; simp
                  | false => rw [hu rfl, ← hc']; simp [undef]
              | _ => simp [guardOf] at hc'
            | _ => simp [guardOf] at hc'
          | _ => simp [guardOf] at hc'
        | _ => simp [guardOf] at hc'
      · cases hg

theorem axOp_pure {S0 : St} {o : Oper} {t : Nat} {bl g : List Nat} {c : Bool} {x : AV} (hdst : o.dst = some t) (hg : guardIn ops S0 o = some (g, c)) (hp : Pure P S0 bl o c x) :
    AxOp P ro ops o ⟨opNames o ++ g ++ bl.map bk, S0, [(sl t, some (.av (wrapGd o c x)))], []⟩ := by
  intro E S a w hs _ hok ⟨V, M, ha, hw⟩ Q hpn
  have ht : t < E.nt := hok.2 t (by simp [Ax.names])
  have hwant := wanted_of (E := E) hs hg (fun n hn => by simp [hn]) ha
  unfold stepIn
  cases c with
  | true =>
    rw [if_pos hwant]
    obtain ⟨v, hr, hd⟩ := hp.2 E V M a w (given_of hs (fun n hn => by simp [hn]) (fun l hl => by simp only [List.mem_append, List.mem_map]; right; exact ⟨l, hl, rfl⟩) rfl ha hw) rfl
    refine wpIn_of_value hp.1 hr ?_
    rw [hdst]
    refine ⟨V, M, repA_slot ha t _ v ht ?_, repW_slot hw t _⟩
    unfold wrapGd
    split
    · exact hd
    · exact .gd _ _ _ (fun _ => hd) (fun h => by cases h)
  | false =>
    rw [if_neg (by rw [hwant]; simp)]
    refine ⟨about_fw o a w, ?_⟩
    rw [hdst]
    have hw' : wrapGd o false x = .gd false x := by
      unfold wrapGd
      split
      · rename_i h; unfold guardIn at hg; rw [h] at hg; simp at hg
      · rfl
    rw [hw']
    exact ⟨V, M, repA_slot ha t _ undef ht (.gd _ _ _ (fun h => by cases h) (fun _ => rfl)), repW_slot hw t _⟩

theorem Trace.pure {S0 S' : St} {o : Oper} {r : List Oper} {L : List Ax} {t : Nat} {x : AV} (bl : List Nat) {g : List Nat} {c : Bool} (hp : Pure P S0 bl o c x) (hdst : o.dst = some t) (hg : guardIn ops S0 o = some (g, c))
    (h : Trace P ro ops r ((sl t, .av (wrapGd o c x)) :: S0) L S') :
    Trace P ro ops (o :: r) S0 (⟨opNames o ++ g ++ bl.map bk, S0, [(sl t, some (.av (wrapGd o c x)))], []⟩ :: L) S' :=
  .cons (axOp_pure hdst hg hp) (fun _ _ => rfl) (fun l hl => by cases hl) (cons_upd S0 _ _) h

/-! Regions. -/
theorem WPA.region {id : Nat} {S S' : St} {L : List Ax} {Q : Exit → St → Prop} (h : Trace P ro ops ops.toList S L S') (hk : KeepOK E L) (hq : Q .normal S') : WPA P ro E (.region id ops false) S Q := by
  intro a w hr
  obtain ⟨E2, e1, e2, hr2, back⟩ := hr.from
  refine wpIn_region ?_
  have := wpOpsIn_of_trace (Q := WPost ro E Q) h (hk.env e1 e2) (fun x hp a w hr => .inr ⟨x, hp, rfl, back _ _ _ hr⟩) (fun a w hr => .inl ⟨S', hq, back _ _ _ hr⟩) 0 (fun j => by simp) a w hr2
  rw [List.range_eq_range', ← Array.length_toList]
  exact this
theorem WPA.draw {id : Nat} {S S' : St} {L : List Ax} {Q : Exit → St → Prop} (hm : P.follows .mixedOrders = true) (h : Trace P ro ops ops.toList S L S') (hd : drawB ops.toList S L = true) (hk : KeepOK E L) (hq : Q .normal S') :
    WPA P ro E (.region id ops true) S Q := by
  intro a w hr
  obtain ⟨E2, e1, e2, hr2, back⟩ := hr.from
  exact wpIn_region_any hm (wpAnyIn_of_trace h hd (hk.env e1 e2) (fun x hp a w hr => .inr ⟨x, hp, rfl, back _ _ _ hr⟩) (fun a w hr => .inl ⟨S', hq, back _ _ _ hr⟩) (hr2.drawn _))

theorem WPA.cond {c : Operand} {x y : Code} {S : St} {Q : Exit → St → Prop} {t : Bool} (hc : evalA S c = some (.d (.v (.bool t)))) (h1 : t = true → WPA P ro E x S Q) (h2 : t = false → WPA P ro E y S Q) : WPA P ro E (.cond c x y) S Q := by
  intro a w hr
  have hr0 := hr
  obtain ⟨ms, _, _, _, V, M, ha, hw⟩ := hr
  have hd := den_eval (fun s y _ h => ha.slots s y h) hc
  have he : Act.eval { a with defers := E.dfs } c = a.eval c := by cases c <;> rfl
  rw [he] at hd
  have : a.eval c = .bool t := by
    generalize a.eval c = u at hd
    cases hd with | d _ _ h => cases h with | v _ => rfl
  exact wpIn_cond_split this (fun h => h1 h a w hr0) (fun h => h2 h a w hr0)

/-- A loop: 'Inv x' at each round's head, a measure that each round lowers. -/
theorem WPA.loop {σ : Type} {c : Code} {S : St} {Q : Exit → St → Prop} (Inv : σ → St) (J : σ → Prop) (m : σ → Nat) (x₀ : σ) (h₀ : (Inv x₀).le S) (j₀ : J x₀)
    (round : ∀ x, J x → WPA P ro E c (Inv x) (thenQ (fun S' => ∃ y, J y ∧ m y < m x ∧ (Inv y).le S') Q)) : WPA P ro E (.loop c) S Q := by
  intro a w hr
  let p : Act → World → Nat → Prop := fun a w n => ∃ x, J x ∧ m x = n ∧ RepM ro E (Inv x) a w
  refine wpIn_loop (fun a w => ∃ n, p a w n) (fun a w => leastOf (p a w)) ⟨m x₀, x₀, j₀, rfl, hr.weaken h₀⟩ ?_
  intro a w hI
  obtain ⟨⟨x, hx, hn, hrx⟩, hmin⟩ := leastOf_spec hI
  refine wpIn_mono (round x hx a w hrx) ?_
  rintro e a' w' (⟨S', q, r⟩ | ⟨x, hp, rfl, r⟩)
  · cases e with
    | normal =>
      obtain ⟨y, hy, hlt, hle⟩ := q
      have hp : p a' w' (m y) := ⟨y, hy, rfl, r.weaken hle⟩
      refine ⟨⟨m y, hp⟩, ?_⟩
      have h1 := (leastOf_spec ⟨m y, hp⟩).2 (m y) hp
      show leastOf (p a' w') < leastOf (p a w)
      omega
    | _ => exact .inl ⟨S', q, r⟩
  · exact .inr ⟨x, hp, rfl, r⟩

end Go.Proofs.Ytcnikeonaklkoaa
