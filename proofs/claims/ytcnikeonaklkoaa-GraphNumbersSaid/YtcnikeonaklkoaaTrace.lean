/- Operations on an abstract state, one after the other, and in every order that a region's edges allow. No program in sight. -/
import Derived.Test.YtcnikeonaklkoaaAbs
namespace Go.Proofs.Ytcnikeonaklkoaa
open Go
set_option linter.unusedSimpArgs false
set_option linter.unusedVariables false

/-- What a walk may assume of its frame: the round that it is in; the panic that it may end with, and what holds then. -/
structure Ro where
  round : Option Nat := none
  pan : Option (List PanicEntry × St) := none
  marks : Bool := false
abbrev FW (ro : Ro) : Fence := { Fence.wide with round := ro.round }
theorem fw_fn (ro : Ro) (f : FuncId) : (FW ro).fn f := trivial
theorem fw_depth (ro : Ro) (k : Nat) : (FW ro).depth.isSome = true → 1 ≤ k := fun h => by cases h

structure Ax where
  rn : List Nat
  S0 : St
  post : List (Nat × Option Cont)
  new : List Nat

def Ax.names (A : Ax) : List Nat := A.post.map Prod.fst
def Sub (A : Ax) (S : St) : Prop := ∀ n ∈ A.rn, S.get n = A.S0.get n
def Fresh (A : Ax) (S : St) : Prop := ∀ l ∈ A.new, ∀ n c, S.get n = some c → n ∉ A.names → ¬ CMent c l

variable {P : Program} {ro : Ro} {ops : Array Oper}

/-- One operation in its region: carried out, or passed over by its guard. -/
def stepIn (P : Program) (ro : Ro) (ops : Array Oper) (Q : Exit → Act → World → Prop) (o : Oper) (K : Act → World → Prop) (a : Act) (w : World) : Prop :=
  if Region.wanted o (yielded ops a.tmps) then o.wpIn (FW ro) 0 P a w K Q else (∀ f, o.about P w a.eval = some f → (FW ro).fn f) ∧ K (a.put o.dst undef) w

theorem stepIn_mono {Q : Exit → Act → World → Prop} {o : Oper} {K K' : Act → World → Prop} {a : Act} {w : World} (h : ∀ a w, K a w → K' a w) (hh : stepIn P ro ops Q o K a w) : stepIn P ro ops Q o K' a w := by
  unfold stepIn at *
  split
  · rename_i hw; simp only [hw, if_true] at hh; exact Oper.wpIn_mono h hh
  · rename_i hw; simp only [hw] at hh; exact ⟨hh.1, h _ _ hh.2⟩

/-- What an operation asks of the frame: the labels that it makes are not to be kept; the slots that it writes are there. -/
def AxOK (E : Env) (A : Ax) : Prop := (∀ l ∈ A.new, l ∉ E.keep) ∧ ∀ t, sl t ∈ A.names → t < E.nt

def AxOp (P : Program) (ro : Ro) (ops : Array Oper) (o : Oper) (A : Ax) : Prop :=
  ∀ (E : Env) (S : St) (a : Act) (w : World), Sub A S → Fresh A S → AxOK E A → Rep E S a w →
    ∀ Q, (∀ x, ro.pan = some x → ∀ a w, Rep E x.2 a w → Q (.panic x.1) a w) → stepIn P ro ops Q o (Rep E (S.upd A.post)) a w

inductive Trace (P : Program) (ro : Ro) (ops : Array Oper) : List Oper → St → List Ax → St → Prop
  | nil (S : St) : Trace P ro ops [] S [] S
  | cons {o : Oper} {A : Ax} {S T : St} {r : List Oper} {l : List Ax} {S' : St} (ha : AxOp P ro ops o A) (hs : Sub A S) (hf : Fresh A S) (he : ∀ n, T.get n = (S.upd A.post).get n) (h : Trace P ro ops r T l S') :
      Trace P ro ops (o :: r) S (A :: l) S'

def KeepOK (E : Env) (l : List Ax) : Prop := ∀ A ∈ l, AxOK E A

/-- Odd; by recursion, so that it may be reckoned where other things stand open. -/
def oddB : Nat → Bool
  | 0 => false
  | n + 1 => !oddB n
theorem oddB_two (t : Nat) : oddB (2 * t) = false := by
  induction t with
  | zero => rfl
  | succ t ih => show (!(!oddB (2 * t))) = false; simp [ih]
def axOKB (keep : List Nat) (nt : Nat) (A : Ax) : Bool := A.new.all (fun l => keep.all fun m => !Nat.beq m l) && A.names.all (fun n => Nat.blt n (2 * nt) || oddB n)
theorem keepOK_of {E : Env} {l : List Ax} {keep : List Nat} {nt : Nat} (hk : E.keep = keep) (hn : E.nt = nt) (h : l.all (axOKB keep nt) = true) : KeepOK E l := by
  intro A hA
  have := List.all_eq_true.1 h A hA
  simp only [axOKB, Bool.and_eq_true, List.all_eq_true, Bool.or_eq_true, Bool.not_eq_true'] at this
  refine ⟨fun l hl hm => ?_, fun t ht => ?_⟩
  · rw [hk] at hm
    have := this.1 l hl l hm
    simp [nbeq] at this
  · rcases this.2 _ ht with h | h
    · have := Nat.le_of_ble_eq_true h
      rw [hn]; show t < nt
      have : 2 * t < 2 * nt := this
      omega
    · have : oddB (2 * t) = true := h
      rw [oddB_two] at this; cases this

theorem wpOpsIn_of_trace {Q : Exit → Act → World → Prop} {E : Env} {l : List Oper} {S S' : St} {L : List Ax} (h : Trace P ro ops l S L S') :
    KeepOK E L → (∀ x, ro.pan = some x → ∀ a w, Rep E x.2 a w → Q (.panic x.1) a w) → (∀ a w, Rep E S' a w → Q .normal a w) → ∀ k, (∀ j, l[j]? = ops[k + j]?) → ∀ a w, Rep E S a w →
      wpOpsIn (FW ro) 0 P ops Q (List.range' k l.length) a w := by
  induction h with
  | nil S => intro _ _ hq k _ a w hr; exact hq a w hr
  | @cons o A S T r l S' ha hs hf he h ih =>
    intro hk hpn hq k hj a w hr
    have h0 : ops[k]? = some o := by simpa using (hj 0).symm
    have hs' := ha E S a w hs hf (hk A (by simp)) hr Q hpn
    rw [List.length_cons, List.range'_succ, wpOpsIn_cons]
    unfold wpOpIn
    simp only [h0]
    exact stepIn_mono (fun a w hr => ih (fun B hB => hk B (by simp [hB])) hpn hq (k + 1) (fun j => by have := hj (j + 1); simpa [Nat.add_assoc, Nat.add_comm 1 j] using this) a w (hr.weaken fun n c e => by rw [← he n]; exact e)) hs'

theorem get_cons (S : St) (n : Nat) (c : Cont) (m : Nat) : St.get ((n, c) :: S) m = if n = m then some c else S.get m := by
  simp only [St.get, nbeq]
  by_cases h : n = m <;> simp [h]
theorem cons_upd (S : St) (n : Nat) (c : Cont) : ∀ m, St.get ((n, c) :: S) m = (S.upd [(n, some c)]).get m := fun m => by
  rw [get_cons]; show _ = (St.ins n c S).get m; rw [St.get_ins]

/-! ### Every order -/

/-- Two states that 'get' cannot tell apart. -/
def St.Eqv (S T : St) : Prop := ∀ n, S.get n = T.get n

def lastOf (n : Nat) (d : Option Cont) : List (Nat × Option Cont) → Option Cont
  | [] => d
  | (m, c) :: r => lastOf n (if m = n then c else d) r
theorem St.get_upd (u : List (Nat × Option Cont)) : ∀ (S : St) (n : Nat), (S.upd u).get n = lastOf n (S.get n) u := by
  induction u with
  | nil => intro S n; rfl
  | cons x r ih => intro S n; obtain ⟨m, c⟩ := x; simp only [St.upd, lastOf]; rw [ih, St.get_put1]
theorem lastOf_notin {n : Nat} {d : Option Cont} {u : List (Nat × Option Cont)} (h : n ∉ u.map Prod.fst) : lastOf n d u = d := by
  induction u generalizing d with
  | nil => rfl
  | cons x r ih =>
    obtain ⟨m, c⟩ := x
    simp only [List.map_cons, List.mem_cons, not_or] at h
    simp only [lastOf]
    rw [if_neg (fun e => h.1 e.symm)]
    exact ih h.2
theorem lastOf_in {n : Nat} {d d' : Option Cont} {u : List (Nat × Option Cont)} (h : n ∈ u.map Prod.fst) : lastOf n d u = lastOf n d' u := by
  induction u generalizing d d' with
  | nil => simp at h
  | cons x r ih =>
    obtain ⟨m, c⟩ := x
    simp only [lastOf]
    by_cases hm : m = n
    · simp [hm]
    · rw [if_neg hm, if_neg hm]
      refine ih ?_
      simp only [List.map_cons, List.mem_cons] at h
      rcases h with h | h
      · exact absurd h.symm hm
      · exact h
theorem lastOf_some {n : Nat} {d : Option Cont} {u : List (Nat × Option Cont)} {c : Cont} (h : lastOf n d u = some c) : d = some c ∧ n ∉ u.map Prod.fst ∨ (n, some c) ∈ u := by
  induction u generalizing d with
  | nil => exact .inl ⟨h, by simp⟩
  | cons x r ih =>
    obtain ⟨m, b⟩ := x
    simp only [lastOf] at h
    rcases ih h with ⟨h1, h2⟩ | h1
    · by_cases hm : m = n
      · subst hm; rw [if_pos rfl] at h1; right; simp [h1]
      · rw [if_neg hm] at h1; left; exact ⟨h1, by simp [h2]; exact fun e => hm e.symm⟩
    · right; simp [h1]

structure Indep (A B : Ax) : Prop where
  ab : ∀ n ∈ A.names, n ∉ B.rn ∧ n ∉ B.names
  ba : ∀ n ∈ B.names, n ∉ A.rn

/-- B's values name no label that A makes. -/
def NoMent (B A : Ax) : Prop := ∀ l ∈ A.new, ∀ p ∈ B.post, p.1 ∉ A.names → ∀ c, p.2 = some c → ¬ CMent c l

structure Item where
  i : Nat
  o : Oper
  A : Ax

inductive Tr (P : Program) (ro : Ro) (ops : Array Oper) : List Item → St → St → Prop
  | nil {S S' : St} (h : S.Eqv S') : Tr P ro ops [] S S'
  | cons {x : Item} {r : List Item} {S S' : St} (ha : AxOp P ro ops x.o x.A) (hs : Sub x.A S) (h : Tr P ro ops r (S.upd x.A.post) S') : Tr P ro ops (x :: r) S S'

theorem upd_eqv {S T : St} (h : S.Eqv T) (u : List (Nat × Option Cont)) : (S.upd u).Eqv (T.upd u) := fun n => by rw [St.get_upd, St.get_upd, h n]

theorem Tr.congr {l : List Item} {S S' : St} (h : Tr P ro ops l S S') : ∀ {T : St}, S.Eqv T → Tr P ro ops l T S' := by
  induction h with
  | nil h => intro T e; exact .nil fun n => (e n).symm.trans (h n)
  | cons ha hs _ ih => intro T e; exact .cons ha (fun p hp => (e p).symm.trans (hs p hp)) (ih (upd_eqv e _))

theorem Tr.swap {x y : Item} {r : List Item} {S S' : St} (hi : Indep x.A y.A) (h : Tr P ro ops (x :: y :: r) S S') : Tr P ro ops (y :: x :: r) S S' := by
  cases h with
  | cons hax hsx h =>
    cases h with
    | cons hay hsy h =>
      have sy : Sub y.A S := fun p hp => by
        have := hsy p hp
        rw [St.get_upd, lastOf_notin (fun hn => (hi.ab p hn).1 hp)] at this
        exact this
      have sx : Sub x.A (S.upd y.A.post) := fun p hp => by
        rw [St.get_upd, lastOf_notin (fun hn => hi.ba p hn hp)]
        exact hsx p hp
      refine .cons hay sy (.cons hax sx (h.congr fun n => ?_))
      simp only [St.get_upd]
      by_cases hy : n ∈ y.A.names
      · have hx : n ∉ x.A.names := fun hx => (hi.ab n hx).2 hy
        rw [lastOf_notin (u := x.A.post) hx, lastOf_notin (u := x.A.post) hx]
      · rw [lastOf_notin (u := y.A.post) hy, lastOf_notin (u := y.A.post) hy]

/-- What is picked may come first, where it is apart from all before it. -/
theorem Tr.front {x : Item} {r : List Item} {S' : St} : ∀ {p : List Item} {S : St}, (∀ y ∈ p, Indep y.A x.A) → Tr P ro ops (p ++ x :: r) S S' → Tr P ro ops (x :: (p ++ r)) S S'
  | [], _, _, h => h
  | y :: p, S, hi, h => by
    cases h with
    | cons ha hs h =>
      have h' := Tr.front (p := p) (fun z hz => hi z (by simp [hz])) h
      exact Tr.swap (hi y (by simp)) (.cons ha hs h')

/-! The ancestors of each operation, as a number's bits. -/
def bindsAny (e : Edge) : Bool := Region.binds .any e
def maskOf (acc : List Nat) (es : List Edge) : Nat := es.foldl (fun m e => bif bindsAny e then Nat.lor m (Nat.lor (acc.getD e.on 0) (Nat.shiftLeft 1 e.on)) else m) 0
def masks : List Oper → List Nat → List Nat
  | [], acc => acc
  | o :: r, acc => masks r (acc ++ [maskOf acc o.after.toList])
def edgesBack : List Oper → Nat → Bool
  | [], _ => true
  | o :: r, k => o.after.toList.all (fun e => !bindsAny e || Nat.blt e.on k) && edgesBack r (k + 1)

mutual
def AV.ment (l : Nat) : AV → Bool
  | .d _ => false
  | .loc a _ => Nat.beq a l
  | .locr a _ _ _ => Nat.beq a l
  | .rp _ => false
  | .own a _ => Nat.beq a l
  | .sl a _ _ _ => Nat.beq a l
  | .fn _ cs => AV.ments l cs
  | .agg cs => AV.ments l cs
  | .tup cs => AV.ments l cs
  | .gd _ x => AV.ment l x
  | .yld a => Nat.beq a l
def AV.ments (l : Nat) : List AV → Bool
  | [] => false
  | x :: r => AV.ment l x || AV.ments l r
end
def slotsMent (l : Nat) : List (Nat × AV) → Bool
  | [] => false
  | p :: r => p.2.ment l || slotsMent l r
theorem slotsMent_of {l : Nat} {p : Nat × AV} {ts : List (Nat × AV)} (hp : p ∈ ts) (h : p.2.ment l = true) : slotsMent l ts = true := by
  induction ts with
  | nil => cases hp
  | cons q r ih =>
    simp only [slotsMent, Bool.or_eq_true]
    rcases List.mem_cons.1 hp with rfl | hp
    · exact .inl h
    · exact .inr (ih hp)
def Cont.ment (l : Nat) : Cont → Bool
  | .av x => x.ment l
  | .blk (.cells cs) => AV.ments l cs
  | .blk (.lp _ ts) => slotsMent l ts
  | .blk (.appv cs) => AV.ments l cs
  | .blk _ => false

theorem ments_of_mem {l : Nat} {x : AV} {cs : List AV} (hx : x ∈ cs) (h : x.ment l = true) : AV.ments l cs = true := by
  induction cs with
  | nil => cases hx
  | cons y r ih =>
    simp only [AV.ments, Bool.or_eq_true]
    rcases List.mem_cons.1 hx with rfl | hx
    · exact .inl h
    · exact .inr (ih hx)
theorem ment_of {x : AV} {l : Nat} (h : Ment x l) : x.ment l = true := by
  induction h with
  | loc l j => simp [AV.ment]
  | locr l n i j => simp [AV.ment]
  | own l len => simp [AV.ment]
  | sl l n lo len => simp [AV.ment]
  | fn f cs x l hx _ ih => simp only [AV.ment]; exact ments_of_mem hx ih
  | agg cs x l hx _ ih => simp only [AV.ment]; exact ments_of_mem hx ih
  | tup cs x l hx _ ih => simp only [AV.ment]; exact ments_of_mem hx ih
  | gd c x l _ ih => simpa only [AV.ment] using ih
  | yld l => simp [AV.ment]
theorem cment_of {c : Cont} {l : Nat} (h : CMent c l) : c.ment l = true := by
  cases c with
  | av x => exact ment_of h
  | blk B =>
    cases h with
    | cells cs x l hx h => exact ments_of_mem hx (ment_of h)
    | lp h ts p l hx hm => exact slotsMent_of hx (ment_of hm)
    | appv cs x l hx h => exact ments_of_mem hx (ment_of h)

def memB (n : Nat) : List Nat → Bool
  | [] => false
  | m :: r => Nat.beq m n || memB n r
theorem memB_iff {n : Nat} {l : List Nat} : memB n l = true ↔ n ∈ l := by
  induction l with
  | nil => simp [memB]
  | cons m r ih => simp only [memB, Bool.or_eq_true, ih, List.mem_cons, nbeq, decide_eq_true_eq]; exact or_congr ⟨Eq.symm, Eq.symm⟩ Iff.rfl

def indepB (A B : Ax) : Bool :=
  A.names.all (fun n => !memB n B.rn && !memB n B.names) && B.names.all (fun n => !memB n A.rn)
theorem indep_of {A B : Ax} (h : indepB A B = true) : Indep A B := by
  simp only [indepB, Bool.and_eq_true, List.all_eq_true, Bool.not_eq_true'] at h
  have key : ∀ {n : Nat} {l : List Nat}, memB n l = false → n ∉ l := fun h hn => by rw [memB_iff.2 hn] at h; cases h
  exact ⟨fun n hn => ⟨key (h.1 n hn).1, key (h.1 n hn).2⟩, fun n hn => key (h.2 n hn)⟩
def postB (l : Nat) (ns : List Nat) : List (Nat × Option Cont) → Bool
  | [] => true
  | (n, c) :: r => (memB n ns || (match c with | some c => !c.ment l | none => true)) && postB l ns r
theorem postB_mem {l : Nat} {ns : List Nat} : ∀ {P : List (Nat × Option Cont)}, postB l ns P = true → ∀ p ∈ P, p.1 ∈ ns ∨ ∀ c, p.2 = some c → c.ment l = false
  | [], _, p, hp => by cases hp
  | (n, c) :: r, h, p, hp => by
    simp only [postB, Bool.and_eq_true, Bool.or_eq_true] at h
    rcases List.mem_cons.1 hp with rfl | hp
    · rcases h.1 with h | h
      · exact .inl (memB_iff.1 h)
      · exact .inr fun c' hc => by simp only at hc; subst hc; simpa using h
    · exact postB_mem h.2 p hp
def noMentB (B A : Ax) : Bool := A.new.all fun l => postB l A.names B.post
theorem noMent_of {B A : Ax} (h : noMentB B A = true) : NoMent B A := by
  simp only [noMentB, List.all_eq_true] at h
  intro l hl p hp hn c hc hm
  rcases postB_mem (h l hl) p hp with h | h
  · exact hn h
  · have := h c hc; rw [cment_of hm] at this; cases this
def freshB (A : Ax) (S : St) : Bool := A.new.all fun l => S.all fun p => memB p.1 A.names || (match S.get p.1 with | some c => !c.ment l | none => true)
theorem St.mem_of_get {S : St} {n : Nat} {c : Cont} (h : S.get n = some c) : (n, c) ∈ S := by
  induction S with
  | nil => cases h
  | cons x r ih =>
    obtain ⟨m, d⟩ := x
    simp only [St.get, nbeq] at h
    by_cases hm : m = n
    · subst hm; simp at h; simp [h]
    · simp [hm] at h; simp [ih h]
theorem fresh_of {A : Ax} {S : St} (h : freshB A S = true) : Fresh A S := by
  simp only [freshB, List.all_eq_true, Bool.or_eq_true, Bool.not_eq_true'] at h
  intro l hl n c hc hn hm
  rcases h l hl (n, c) (St.mem_of_get hc) with h | h
  · exact hn (memB_iff.1 h)
  · simp only [hc, cment_of hm, Bool.not_true, Bool.false_eq_true] at h

/-- Each pair: what comes later in the text is an heir of what came before it, or apart from it; and no value names a label that is yet to be made. -/
def pairB (ms : List Nat) (i : Nat) (A : Ax) (j : Nat) (B : Ax) : Bool :=
  ((ms.getD j 0).testBit i || (indepB A B && noMentB B A)) && noMentB A B
def laterB (ms : List Nat) (i : Nat) (A : Ax) : Nat → List Ax → Bool
  | _, [] => true
  | j, B :: r => pairB ms i A j B && laterB ms i A (j + 1) r
def pairsB (ms : List Nat) : Nat → List Ax → Bool
  | _, [] => true
  | i, A :: r => laterB ms i A (i + 1) r && pairsB ms (i + 1) r
def drawB (ops : List Oper) (S : St) (L : List Ax) : Bool := edgesBack ops 0 && pairsB (masks ops []) 0 L && L.all (freshB · S)

/-! The proof. -/
theorem masks_prefix : ∀ (r : List Oper) (acc : List Nat), ∃ t, masks r acc = acc ++ t
  | [], acc => ⟨[], by simp [masks]⟩
  | o :: r, acc => by
    obtain ⟨t, h⟩ := masks_prefix r (acc ++ [maskOf acc o.after.toList])
    exact ⟨maskOf acc o.after.toList :: t, by simp [masks, h]⟩

theorem masks_at : ∀ (r : List Oper) (acc : List Nat) (j : Nat) (o : Oper), r[j]? = some o →
    (masks r acc)[acc.length + j]? = some (maskOf ((masks r acc).take (acc.length + j)) o.after.toList)
  | [], _, _, _, h => by simp at h
  | p :: r, acc, 0, o, h => by
    simp only [List.getElem?_cons_zero, Option.some.injEq] at h
    subst h
    obtain ⟨t, ht⟩ := masks_prefix r (acc ++ [maskOf acc p.after.toList])
    simp [masks, ht]
  | p :: r, acc, j + 1, o, h => by
    simp only [List.getElem?_cons_succ] at h
    have := masks_at r (acc ++ [maskOf acc p.after.toList]) j o h
    simp only [List.length_append, List.length_cons, List.length_nil, Nat.zero_add] at this
    have e : acc.length + (j + 1) = acc.length + 1 + j := by omega
    rw [e]
    simpa [masks] using this

theorem maskOf_bits {acc : List Nat} {p : Nat → Prop} (es : List Edge) (h : ∀ e ∈ es, bindsAny e = true → p e.on ∧ ∀ i, (acc.getD e.on 0).testBit i = true → p i) :
    ∀ i, (maskOf acc es).testBit i = true → p i := by
  have key : ∀ (es : List Edge) (m : Nat), (∀ i, m.testBit i = true → p i) → (∀ e ∈ es, bindsAny e = true → p e.on ∧ ∀ i, (acc.getD e.on 0).testBit i = true → p i) →
      ∀ i, (es.foldl (fun m e => bif bindsAny e then Nat.lor m (Nat.lor (acc.getD e.on 0) (Nat.shiftLeft 1 e.on)) else m) m).testBit i = true → p i := by
    intro es
    induction es with
    | nil => intro m hm _ i hi; exact hm i hi
    | cons e r ih =>
      intro m hm he i hi
      refine ih _ ?_ (fun e' h' => he e' (by simp [h'])) i hi
      intro i hi
      replace hi : (bif bindsAny e then Nat.lor m (Nat.lor (acc.getD e.on 0) (Nat.shiftLeft 1 e.on)) else m).testBit i = true := hi
      cases hb : bindsAny e with
      | false => rw [hb] at hi; exact hm i hi
      | true =>
        rw [hb] at hi
        obtain ⟨h1, h2⟩ := he e (by simp) hb
        have hi' : (m ||| ((acc.getD e.on 0) ||| (1 <<< e.on))).testBit i = true := hi
        simp only [Nat.testBit_or, Bool.or_eq_true] at hi'
        rcases hi' with hi' | hi' | hi'
        · exact hm i hi'
        · exact h2 i hi'
        · simp only [Nat.testBit_shiftLeft, Bool.and_eq_true, decide_eq_true_eq] at hi'
          have : i - e.on = 0 := by
            cases hz : i - e.on with
            | zero => rfl
            | succ k => rw [hz] at hi'; simp [Nat.testBit_succ] at hi'
          have : i = e.on := by omega
          exact this ▸ h1
  exact key es 0 (fun i hi => by simp at hi) h

theorem edgesBack_at : ∀ (r : List Oper) (k j : Nat) (o : Oper), edgesBack r k = true → r[j]? = some o → ∀ e ∈ o.after.toList, bindsAny e = true → e.on < k + j
  | [], _, _, _, _, h => by simp at h
  | p :: r, k, 0, o, hb, h => by
    simp only [List.getElem?_cons_zero, Option.some.injEq] at h
    subst h
    simp only [edgesBack, Bool.and_eq_true, List.all_eq_true] at hb
    intro e he hbd
    have := hb.1 e he
    rw [hbd] at this
    simpa using this
  | p :: r, k, j + 1, o, hb, h => by
    simp only [List.getElem?_cons_succ] at h
    simp only [edgesBack, Bool.and_eq_true] at hb
    intro e he hbd
    have := edgesBack_at r (k + 1) j o hb.2 h e he hbd
    omega

theorem pairsB_at {ms : List Nat} : ∀ (L : List Ax) (k i j : Nat) (A B : Ax), pairsB ms k L = true → L[i]? = some A → L[j]? = some B → i < j → pairB ms (k + i) A (k + j) B = true := by
  have later : ∀ (r : List Ax) (i : Nat) (A : Ax) (k j : Nat) (B : Ax), laterB ms i A k r = true → r[j]? = some B → pairB ms i A (k + j) B = true := by
    intro r
    induction r with
    | nil => intro i A k j B _ h; simp at h
    | cons C r ih =>
      intro i A k j B hl h
      simp only [laterB, Bool.and_eq_true] at hl
      cases j with
      | zero => simp at h; subst h; exact hl.1
      | succ j => simp only [List.getElem?_cons_succ] at h; have := ih i A (k + 1) j B hl.2 h; rwa [show k + 1 + j = k + (j + 1) by omega] at this
  intro L
  induction L with
  | nil => intro k i j A B _ h; simp at h
  | cons C r ih =>
    intro k i j A B hp hi hj hij
    simp only [pairsB, Bool.and_eq_true] at hp
    cases j with
    | zero => omega
    | succ j =>
      simp only [List.getElem?_cons_succ] at hj
      cases i with
      | zero =>
        simp at hi; subst hi
        have := later r k C (k + 1) j B hp.1 hj
        rwa [show k + 1 + j = k + (j + 1) by omega] at this
      | succ i =>
        simp only [List.getElem?_cons_succ] at hi
        have := ih (k + 1) i j A B hp.2 hi hj (by omega)
        rwa [show k + 1 + i = k + (i + 1) by omega, show k + 1 + j = k + (j + 1) by omega] at this

/-- What is asked of the operations that are still to come ('rem', in the order of the text), at a state S. -/
structure Pend (ms : List Nat) (ops : Array Oper) (rem : List Item) : Prop where
  op : ∀ x ∈ rem, ops[x.i]? = some x.o
  sorted : rem.Pairwise (fun x y => x.i < y.i ∧ pairB ms x.i x.A y.i y.A = true)

theorem Pend.sub {ms : List Nat} {rem rem' : List Item} (h : Pend ms ops rem) (hs : rem'.Sublist rem) : Pend ms ops rem' :=
  ⟨fun x hx => h.op x (hs.subset hx), h.sorted.sublist hs⟩

theorem wpAnyIn_of_tr {Q : Exit → Act → World → Prop} {E : Env} {S' : St} (hback : edgesBack ops.toList 0 = true) (hpn : ∀ x, ro.pan = some x → ∀ a w, Rep E x.2 a w → Q (.panic x.1) a w) (hq : ∀ a w, Rep E S' a w → Q .normal a w) :
    ∀ (fuel : Nat) (listed : Array Bool) (rem : List Item) (S : St) (a : Act) (w : World), rem.length = fuel → listed.size = ops.size →
      (∀ i, (∃ x ∈ rem, x.i = i) ↔ i < ops.size ∧ listed.getD i true = false) →
      (∀ i, listed.getD i false = true → ∀ p, ((masks ops.toList []).getD i 0).testBit p = true → listed.getD p false = true) →
      Pend (masks ops.toList []) ops rem → (∀ x ∈ rem, AxOK E x.A) → (∀ x ∈ rem, Fresh x.A S) →
      Tr P ro ops rem S S' → Rep E S a w → wpAnyIn (FW ro) 0 P .any ops Q fuel listed a w := by
  intro fuel
  induction fuel with
  | zero =>
    intro listed rem S a w hlen hsz hrem hdown hp hk hf htr hr
    have hnil : rem = [] := List.length_eq_zero_iff.1 hlen
    subst hnil
    refine ⟨?_, ?_⟩
    · rw [List.eq_nil_iff_forall_not_mem]
      intro i hi
      rw [mem_ready] at hi
      obtain ⟨h1, o, ho, _⟩ := hi
      have hlt : i < ops.size := by
        rcases Nat.lt_or_ge i ops.size with h | h
        · exact h
        · simp [Array.getElem?_eq_none h] at ho
      have := (hrem i).2 ⟨hlt, h1⟩
      simp at this
    · cases htr with
      | nil h => exact hq a w (hr.weaken fun n c e => by rw [h n]; exact e)
  | succ fuel ih =>
    intro listed rem S a w hlen hsz hrem hdown hp hk hf htr hr
    refine ⟨?_, ?_⟩
    · intro hnil
      exfalso
      cases rem with
      | nil => simp at hlen
      | cons x r =>
        have hx := (hrem x.i).1 ⟨x, by simp, rfl⟩
        have hmem : x.i ∈ Region.ready .any ops listed := by
          rw [mem_ready]
          have hxo := hp.op x (by simp)
          refine ⟨hx.2, x.o, hxo, ?_⟩
          intro e he hbind
          have hlt := edgesBack_at ops.toList 0 x.i x.o hback (by simpa using hxo) e (by simpa using he) hbind
          simp only [Nat.zero_add] at hlt
          cases hl : listed.getD e.on false with
          | true => rfl
          | false =>
            exfalso
            have hlt' : e.on < ops.size := by omega
            have : listed.getD e.on true = false := by
              rw [Array.getD_eq_getD_getElem?] at hl ⊢
              have : e.on < listed.size := by omega
              simpa [this] using hl
            obtain ⟨y, hy, hye⟩ := (hrem e.on).2 ⟨hlt', this⟩
            rcases List.mem_cons.1 hy with rfl | hy
            · omega
            · have := (List.pairwise_cons.1 hp.sorted).1 y hy
              omega
        rw [hnil] at hmem
        cases hmem
    · intro i hi
      have hi' := hi
      rw [mem_ready] at hi'
      obtain ⟨hi2, o', ho', hi3⟩ := hi'
      have hi1 : i < ops.size := by
        rcases Nat.lt_or_ge i ops.size with h | h
        · exact h
        · simp [Array.getElem?_eq_none h] at ho'
      obtain ⟨x, hx, rfl⟩ := (hrem i).2 ⟨hi1, hi2⟩
      obtain ⟨p, r, rfl⟩ := List.append_of_mem hx
      have hxo := hp.op x hx
      rw [hxo] at ho'
      injection ho' with ho'
      subst ho'
      -- all ancestors are listed
      have hanc : ∀ q, ((masks ops.toList []).getD x.i 0).testBit q = true → listed.getD q false = true := by
        have hm := masks_at ops.toList [] x.i x.o (by simpa using hxo)
        simp only [List.length_nil, Nat.zero_add] at hm
        intro q hqb
        rw [List.getD_eq_getElem?_getD, hm] at hqb
        refine maskOf_bits (p := fun q => listed.getD q false = true) x.o.after.toList ?_ q hqb
        intro e he hb
        have hon : listed.getD e.on false = true := hi3 e (by simpa using he) hb
        refine ⟨hon, fun t ht => hdown e.on hon t ?_⟩
        have hlt := edgesBack_at ops.toList 0 x.i x.o hback (by simpa using hxo) e he hb
        simp only [Nat.zero_add] at hlt
        rw [List.getD_eq_getElem?_getD] at ht ⊢
        rwa [List.getElem?_take_of_lt hlt] at ht
      have hsorted := List.pairwise_append.1 hp.sorted
      have hpre : ∀ y ∈ p, Indep y.A x.A ∧ NoMent x.A y.A := fun y hy => by
        obtain ⟨hlt, hpb⟩ := hsorted.2.2 y hy x (by simp)
        simp only [pairB, Bool.and_eq_true, Bool.or_eq_true] at hpb
        rcases hpb.1 with hb | hb
        · exfalso
          have hl := hanc y.i hb
          have hy' := (hrem y.i).1 ⟨y, by simp [hy], rfl⟩
          have : listed.getD y.i true = true := by
            rw [Array.getD_eq_getD_getElem?] at hl ⊢
            have : y.i < listed.size := by omega
            simpa [this] using hl
          rw [this] at hy'
          exact absurd hy'.2 (by simp)
        · exact ⟨indep_of hb.1, noMent_of hb.2⟩
      have hpost : ∀ y ∈ r, NoMent x.A y.A := fun y hy => by
        have hc := (List.pairwise_cons.1 hsorted.2.1).1 y hy
        simp only [pairB, Bool.and_eq_true] at hc
        exact noMent_of hc.2.2
      have hfront := Tr.front (fun y hy => (hpre y hy).1) htr
      cases hfront with
      | cons ha hs h =>
        have hstep := ha E S a w hs (hf x hx) (hk x hx) hr Q hpn
        unfold wpOpIn
        simp only [hxo]
        refine stepIn_mono (fun a' w' hr' => ?_) hstep
        have hsub : (p ++ r).Sublist (p ++ x :: r) := List.Sublist.append_left (List.sublist_cons_self x r) p
        have hnd : ∀ y ∈ p ++ r, y.i ≠ x.i := fun y hy e => by
          rcases List.mem_append.1 hy with hy | hy
          · have := (hsorted.2.2 y hy x (by simp)).1; omega
          · have := ((List.pairwise_cons.1 hsorted.2.1).1 y hy).1; omega
        have hset : ∀ q d, (listed.setIfInBounds x.i true).getD q d = if q = x.i then true else listed.getD q d := by
          intro q d
          by_cases h : q = x.i
          · subst h
            have : x.i < listed.size := by omega
            rw [Array.getD_eq_getD_getElem?]
            simp [this]
          · rw [if_neg h, getD_set_ne d (fun e => h e.symm)]
        refine ih _ (p ++ r) _ a' w' (by simp at hlen ⊢; omega) (by simpa using hsz) ?_ ?_ (hp.sub hsub) (fun y hy => hk y (hsub.subset hy)) ?_ h hr'
        · intro i
          rw [hset]
          constructor
          · rintro ⟨y, hy, rfl⟩
            have := (hrem y.i).1 ⟨y, hsub.subset hy, rfl⟩
            exact ⟨this.1, by rw [if_neg (hnd y hy)]; exact this.2⟩
          · rintro ⟨h1, h2⟩
            by_cases h : i = x.i
            · rw [if_pos h] at h2; cases h2
            · rw [if_neg h] at h2
              obtain ⟨y, hy, hyi⟩ := (hrem i).2 ⟨h1, h2⟩
              refine ⟨y, ?_, hyi⟩
              rcases List.mem_append.1 hy with hy | hy
              · exact List.mem_append_left _ hy
              · rcases List.mem_cons.1 hy with rfl | hy
                · exact absurd hyi.symm h
                · exact List.mem_append_right _ hy
        · intro i hli q hqb
          rw [hset] at hli ⊢
          by_cases hqi : q = x.i
          · rw [if_pos hqi]
          · rw [if_neg hqi]
            by_cases h : i = x.i
            · subst h; exact hanc q hqb
            · rw [if_neg h] at hli; exact hdown i hli q hqb
        · intro y hy l hl n c hc hn
          rw [St.get_upd] at hc
          have hnm : NoMent x.A y.A := by
            rcases List.mem_append.1 hy with hy | hy
            · exact (hpre y hy).2
            · exact hpost y hy
          rcases lastOf_some hc with ⟨hc, _⟩ | hc
          · exact hf y (hsub.subset hy) l hl n c hc hn
          · exact hnm l hl _ hc hn c rfl

theorem tr_of_trace {l : List Oper} {S S' : St} {L : List Ax} (h : Trace P ro ops l S L S') : ∀ k, Tr P ro ops ((l.zip L).mapIdx fun i x => ⟨k + i, x.1, x.2⟩) S S' ∧ l.length = L.length := by
  induction h with
  | nil S => intro k; exact ⟨.nil fun _ => rfl, rfl⟩
  | @cons o A S T r l S' ha hs hf he h ih =>
    intro k
    obtain ⟨h1, h2⟩ := ih (k + 1)
    refine ⟨?_, by simp [h2]⟩
    simp only [List.zip_cons_cons, List.mapIdx_cons]
    refine .cons ha hs ?_
    have : ((r.zip l).mapIdx fun i x => (⟨k + (i + 1), x.1, x.2⟩ : Item)) = ((r.zip l).mapIdx fun i x => (⟨k + 1 + i, x.1, x.2⟩ : Item)) := by
      congr 1; funext i x; congr 1; omega
    rw [this]
    exact h1.congr fun n => he n

theorem wpAnyIn_of_trace {Q : Exit → Act → World → Prop} {E : Env} {S S' : St} {L : List Ax} (h : Trace P ro ops ops.toList S L S') (hd : drawB ops.toList S L = true)
    (hk : KeepOK E L) (hpn : ∀ x, ro.pan = some x → ∀ a w, Rep E x.2 a w → Q (.panic x.1) a w) (hq : ∀ a w, Rep E S' a w → Q .normal a w) {a : Act} {w : World} (hr : Rep E S a w) :
    wpAnyIn (FW ro) 0 P .any ops Q ops.size (Array.replicate ops.size false) a w := by
  obtain ⟨htr, hlen⟩ := tr_of_trace h 0
  simp only [drawB, Bool.and_eq_true, List.all_eq_true] at hd
  have hget : ∀ x ∈ ((ops.toList.zip L).mapIdx fun i x => (⟨0 + i, x.1, x.2⟩ : Item)), ops.toList[x.i]? = some x.o ∧ L[x.i]? = some x.A := by
    intro x hx
    obtain ⟨i, hi, rfl⟩ := List.mem_mapIdx.1 hx
    simp only [List.length_zip] at hi
    have h1 : i < ops.toList.length := by omega
    have h2 : i < L.length := by omega
    simp only [Nat.zero_add, List.getElem_zip]
    exact ⟨by rw [List.getElem?_eq_getElem h1], by rw [List.getElem?_eq_getElem h2]⟩
  have hlen' : L.length = ops.size := by simpa using hlen.symm
  refine wpAnyIn_of_tr hd.1.1 hpn hq ops.size _ _ S a w (by simp [List.length_zip]; omega) (by simp) ?_ ?_ ⟨?_, ?_⟩ ?_ ?_ htr hr
  · intro i
    constructor
    · rintro ⟨x, hx, rfl⟩
      have := (hget x hx).1
      have hlt : x.i < ops.size := by
        have := List.getElem?_eq_some_iff.1 this
        simpa using this.1
      exact ⟨hlt, by simp [Array.getD_eq_getD_getElem?, hlt]⟩
    · rintro ⟨h1, _⟩
      have h2 : i < (ops.toList.zip L).length := by simp [List.length_zip]; have : L.length = ops.size := by simpa using hlen.symm
                                                    omega
      exact ⟨⟨0 + i, ((ops.toList.zip L)[i]).1, ((ops.toList.zip L)[i]).2⟩, List.mem_mapIdx.2 ⟨i, h2, rfl⟩, by simp⟩
  · intro i hi
    exfalso
    by_cases h : i < ops.size <;> simp [Array.getD_eq_getD_getElem?, h] at hi
  · intro x hx; have := (hget x hx).1; simpa using this
  · rw [List.pairwise_iff_getElem]
    intro i j hi hj hij
    simp only [List.length_mapIdx, List.length_zip] at hi hj
    simp only [List.getElem_mapIdx, List.getElem_zip, Nat.zero_add]
    refine ⟨hij, ?_⟩
    have := pairsB_at L 0 i j L[i] L[j] hd.1.2 (List.getElem?_eq_getElem _) (List.getElem?_eq_getElem _) hij
    simpa using this
  · intro x hx; exact hk x.A (List.mem_of_getElem? (hget x hx).2)
  · intro x hx; exact fresh_of (hd.2 x.A (List.mem_of_getElem? (hget x hx).2))

end Go.Proofs.Ytcnikeonaklkoaa
