/- New memory: variables, boxes, structs and slices that are built, make. No program in sight. -/
import Derived.Test.YtcnikeonaklkoaaRead
namespace Go.Proofs.Ytcnikeonaklkoaa
open Go
set_option linter.unusedVariables false
set_option linter.unusedSimpArgs false
variable {P : Program} {S : St} {ro : Ro} {ops : Array Oper}

/-- Cell by cell. -/
structure DenL (V : Vals) (M : Mem) (l : List AV) (vs : List Value) : Prop where
  len : l.length = vs.length
  at' : ∀ (j : Nat) (x : AV) (y : Value), l[j]? = some x → vs[j]? = some y → Den V M x y

def spliceL {α : Type} (l : List α) (o : Nat) (us : List α) : List α := l.take o ++ us ++ l.drop (o + us.length)
theorem spliceL_length {α : Type} {l : List α} {o : Nat} {us : List α} (h : o + us.length ≤ l.length) : (spliceL l o us).length = l.length := by
  simp [spliceL]; omega
theorem spliceL_get {α : Type} {l : List α} {o : Nat} {us : List α} (h : o + us.length ≤ l.length) (j : Nat) : (spliceL l o us)[j]? = if o ≤ j ∧ j < o + us.length then us[j - o]? else l[j]? := by
  unfold spliceL
  by_cases h1 : j < o
  · rw [if_neg (by omega), List.append_assoc, List.getElem?_append_left (by simp; omega), List.getElem?_take_of_lt h1]
  · by_cases h2 : j < o + us.length
    · rw [if_pos ⟨by omega, h2⟩, List.append_assoc, List.getElem?_append_right (by simp; omega), List.getElem?_append_left (by simp; omega)]
      congr 1
      simp
      omega
    · rw [if_neg (by omega), List.getElem?_append_right (by simp; omega), List.getElem?_drop]
      congr 1
      simp
      omega
theorem DenL.splice {V : Vals} {M : Mem} {l us : List AV} {vs ws : List Value} {o : Nat} (h : DenL V M l vs) (k : DenL V M us ws) (ho : o + us.length ≤ l.length) : DenL V M (spliceL l o us) (spliceL vs o ws) where
  len := by rw [spliceL_length ho, spliceL_length (by rw [← k.len, ← h.len]; exact ho), h.len]
  at' := fun j x y hx hy => by
    rw [spliceL_get ho] at hx
    rw [spliceL_get (by rw [← k.len, ← h.len]; exact ho)] at hy
    rw [← k.len] at hy
    split at hx
    · rename_i hj; rw [if_pos hj] at hy; exact k.at' _ _ _ hx hy
    · rename_i hj; rw [if_neg hj] at hy; exact h.at' _ _ _ hx hy

/-- The cells of a value. -/
def single : Value → Bool
  | .agg _ | .tuple _ => false
  | _ => true
def AV.cellsL : AV → Option (List AV)
  | .d (.agg l) => some (l.map .d)
  | .d (.v u) => bif single u then some [.d (.v u)] else none
  | .agg l => some l
  | .tup _ => none
  | .gd _ _ => none
  | x => some [x]
theorem cells_single {u : Value} (h : single u = true) : u.cells = #[u] := by cases u <;> simp_all [single, Value.cells]
theorem cells_of {V : Vals} {M : Mem} {x : AV} {v : Value} {l : List AV} (h : Den V M x v) (hl : x.cellsL = some l) : DenL V M l v.cells.toList := by
  have one : ∀ {x : AV} {v : Value}, Den V M x v → v.cells = #[v] → DenL V M [x] v.cells.toList := fun {x v} h e => by
    rw [e]
    refine ⟨rfl, fun j y z hy hz => ?_⟩
    cases j with
    | zero => simp at hy hz; subst hy; subst hz; exact h
    | succ j => simp at hy
  cases h with
  | d x v h =>
    cases h with
    | v =>
      simp only [AV.cellsL] at hl
      cases hs : single v with
      | true => rw [hs] at hl; simp only [cond_true, Option.some.injEq] at hl; subst hl; exact one (.d _ _ (.v _)) (cells_single hs)
      | false => rw [hs] at hl; simp at hl
    | agg l' vs hl' hd =>
      simp only [AV.cellsL, Option.some.injEq] at hl
      subst hl
      refine ⟨by simpa [Value.cells] using hl', fun j y z hy hz => ?_⟩
      simp only [List.getElem?_map, Option.map_eq_some_iff] at hy
      obtain ⟨y', hy', rfl⟩ := hy
      exact .d _ _ (hd j y' z hy' hz)
    | emp n g a cap => simp only [AV.cellsL, Option.some.injEq] at hl; subst hl; exact one (.d _ _ (.emp n g a cap)) rfl
    | rows n len g b o cap hc hl' c hm h => simp only [AV.cellsL, Option.some.injEq] at hl; subst hl; exact one (.d _ _ (.rows n len g b o cap hc hl' c hm h)) rfl
  | agg l' vs hl' hd => simp only [AV.cellsL, Option.some.injEq] at hl; subst hl; exact ⟨hl', hd⟩
  | loc l j => simp only [AV.cellsL, Option.some.injEq] at hl; subst hl; exact one (.loc l j) rfl
  | locr l n i j => simp only [AV.cellsL, Option.some.injEq] at hl; subst hl; exact one (.locr l n i j) rfl
  | rp l b o c hm h => simp only [AV.cellsL, Option.some.injEq] at hl; subst hl; exact one (.rp l b o c hm h) rfl
  | own l len cap hk hc => simp only [AV.cellsL, Option.some.injEq] at hl; subst hl; exact one (.own l len cap hk hc) rfl
  | ownNil l hk => simp only [AV.cellsL, Option.some.injEq] at hl; subst hl; exact one (.ownNil l hk) rfl
  | sl l n lo len cap hc hk => simp only [AV.cellsL, Option.some.injEq] at hl; subst hl; exact one (.sl l n lo len cap hc hk) rfl
  | slEmp l n lo a cap => simp only [AV.cellsL, Option.some.injEq] at hl; subst hl; exact one (.slEmp l n lo a cap) rfl
  | fn f cs vs hl' hd => simp only [AV.cellsL, Option.some.injEq] at hl; subst hl; exact one (.fn f cs vs hl' hd) rfl
  | yld l => simp only [AV.cellsL, Option.some.injEq] at hl; subst hl; exact one (.yld l) rfl
  | tup => simp [AV.cellsL] at hl
  | gd => simp [AV.cellsL] at hl

theorem DenL.relab {V : Vals} {M : Mem} {l : List AV} {vs : List Value} (h : DenL V M l vs) {m : Nat} (b : Nat) (k : Option Nat) (hm : ∀ x ∈ l, ¬ Ment x m) : DenL (V.set m b k) M l vs :=
  ⟨h.len, fun j x y hx hy => (h.at' j x y hx hy).relab b k (hm x (List.mem_of_getElem? hx))⟩

/-! A general law for operations that make one block. -/
theorem axOp_new {S0 : St} {o : Oper} {t l : Nat} {bl ds : List Nat} {B : Blk} {x : AV} (hdst : o.dst = some t) (hgd : o.guard = none) (hnd : ∀ d, o.op ≠ .defer d)
    (h : ∀ E V M a w, Given E S0 o bl true V M a w → ∃ w' v κ, (execOp a.eval o).run P w = .ok (.value v) w' ∧ WStep w w' w.heap.size ∧ BlkAt (V.set l w.heap.size κ) M w' l B ∧ Den (V.set l w.heap.size κ) M x v) :
    AxOp P ro ops o ⟨opNames o ++ bl.map bk, S0, postOf ds l B t x, [l]⟩ := by
  intro E S a w hs hf hok ⟨V, M, ha, hw⟩ Q hpn
  have ht : t < E.nt := hok.2 t (names_postOf.2 (.inr (.inr rfl)))
  have hk : l ∉ E.keep := hok.1 l (by simp)
  obtain ⟨w', v, κ, hr, hst, hB, hx⟩ := h E V M a w (given_of (rn := opNames o ++ bl.map bk) hs (fun n hn => by simp [hn]) (fun l hl => by simp only [List.mem_append, List.mem_map]; right; exact ⟨l, hl, rfl⟩) rfl ha hw)
  unfold stepIn
  rw [if_pos (by simp [Region.wanted, hgd])]
  refine wpIn_of_value hnd hr ?_
  rw [hdst]
  exact rep_step ha hw hst (.inl rfl) (hf l (by simp)) hk ht hB hx

theorem Trace.new {S0 S' : St} {o : Oper} {r : List Oper} {L : List Ax} {t l : Nat} {bl : List Nat} (ds : List Nat) {B : Blk} {x : AV} (ha : AxOp P ro ops o ⟨opNames o ++ bl.map bk, S0, postOf ds l B t x, [l]⟩)
    (hf : freshB ⟨opNames o ++ bl.map bk, S0, postOf ds l B t x, [l]⟩ S0 = true) (h : Trace P ro ops r (S0.after ds l B t x) L S') :
    Trace P ro ops (o :: r) S0 (⟨opNames o ++ bl.map bk, S0, postOf ds l B t x, [l]⟩ :: L) S' :=
  .cons ha (fun _ _ => rfl) (fresh_of hf) (after_upd _ _ _ _ _ _) h

/-! Zero values, variables, boxes. -/
def ZeroIs (P : Program) (t : TypeId) (zs : List Value) : Prop := (P.info? t).map (fun i => i.zero.map fun z => z.cells.toList) = some (some zs)
theorem zeroIs_run {t : TypeId} {zs : List Value} (h : ZeroIs P t zs) : ∃ z, z.cells.toList = zs ∧ ∀ w, (zeroValue t).run P w = .ok z w := by
  unfold ZeroIs at h
  cases hi : P.info? t with
  | none => rw [hi] at h; simp at h
  | some i =>
    rw [hi] at h
    cases hz : i.zero with
    | none => simp [hz] at h
    | some z =>
      simp [hz] at h
      exact ⟨z, h, fun w => by simp [zeroValue, typeInfo, hi, hz]⟩
def CellsAs (B : Blk) (zs : List Value) : Prop := ∀ V M w l t, V.κ l ≠ none → w.heap[V.ρ l]? = some (.cells zs.toArray t (0, 0)) → BlkAt V M w l B
theorem cellsAs_vals (zs : List Value) : CellsAs (.cells (zs.map fun z => .d (.v z))) zs := by
  intro V M w l t hk hb
  refine ⟨hk, zs.toArray, t, hb, by simp, fun j x y hx hy => ?_⟩
  simp only [List.getElem?_map, Option.map_eq_some_iff] at hx
  obtain ⟨z, hz, rfl⟩ := hx
  simp only [List.getElem?_toArray] at hy
  rw [hz] at hy; injection hy with hy; subst hy
  exact .d _ _ (.v _)
theorem cellsAs_data (zs : List Value) : CellsAs (.data (zs.map .v)) zs := by
  intro V M w l t hk hb
  have := cellsAs_vals zs V M w l t hk hb
  show cellsAt V M w l ((zs.map D.v).map AV.d)
  rw [List.map_map]
  exact this
theorem cellsAs_ints (n : Nat) (k : IntKind) (m : Int) : CellsAs (.cols 1 n [.ints k (List.replicate n m)]) (List.replicate n (.int k m)) := by
  intro V M w l t hk hb
  refine ⟨hk, _, t, hb, by simp, rfl, by simp [Col.len], fun i j c hi hc => ?_⟩
  cases j with
  | zero =>
    simp at hc; subst hc
    exact ⟨.int k m, by simp [hi], by simp [Col.at, hi]; exact .v _⟩
  | succ j => simp at hc
theorem cellsAs_bools (n : Nat) (m : Bool) : CellsAs (.cols 1 n [.bools (List.replicate n m)]) (List.replicate n (.bool m)) := by
  intro V M w l t hk hb
  refine ⟨hk, _, t, hb, by simp, rfl, by simp [Col.len], fun i j c hi hc => ?_⟩
  cases j with
  | zero =>
    simp at hc; subst hc
    exact ⟨.bool m, by simp [hi], by simp [Col.at, hi]; exact .v _⟩
  | succ j => simp at hc

theorem run_newVar {t : TypeId} {v : Value} (w : World) : (newVar t v).run P w = .ok ⟨w.heap.size, 0, none⟩ (w.alloc (.cells v.cells t)) := by
  simp [newVar, newRow]
theorem heap_alloc (w : World) (o : Obj) : (w.alloc o).heap[w.heap.size]? = some o := by
  show (w.heap.push o)[w.heap.size]? = some o
  simp

section
variable {o : Oper} {x y z : Operand} {d t : Nat} {ty e s : TypeId} {pos : String} {af : Array Edge}

theorem Trace.alloc {S' : St} {r : List Oper} {L : List Ax} (l : Nat) (ds : List Nat) {zs : List Value} (B : Blk) (hz : ZeroIs P e zs) (hB : CellsAs B zs)
    (hf : freshB ⟨opNames ⟨some d, .alloc e, ty, pos, af, none⟩, S, postOf ds l B d (.loc l 0), [l]⟩ S = true) (h : Trace P ro ops r (S.after ds l B d (.loc l 0)) L S') :
    Trace P ro ops (⟨some d, .alloc e, ty, pos, af, none⟩ :: r) S (⟨opNames ⟨some d, .alloc e, ty, pos, af, none⟩ ++ ([] : List Nat).map bk, S, postOf ds l B d (.loc l 0), [l]⟩ :: L) S' := by
  refine Trace.new ds (axOp_new rfl rfl (fun _ h => nomatch h) fun E V M a w h => ?_) (by simpa using hf) h
  obtain ⟨z, hzs, hr⟩ := zeroIs_run hz
  refine ⟨w.alloc (.cells z.cells e), .pointer (some ⟨w.heap.size, 0, none⟩), some 0, ?_, WStep.alloc w _, ?_, ?_⟩
  · simp only [execOp, Instr.alloc, Sem.run_bind, hr, Result.andThen, run_newVar, Sem.run_pure]
  · refine hB _ M _ l e (by simp) ?_
    rw [Vals.set_ρ, heap_alloc, ← hzs, Array.toArray_toList]
  · have := Den.loc (V := V.set l w.heap.size (some 0)) (M := M) l 0
    rwa [Vals.set_ρ] at this

theorem Trace.box {S' : St} {r : List Oper} {L : List Ax} (l : Nat) (ds : List Nat) {u : AV} {cs : List AV} (e1 : Ev S true x u) (hcs : u.cellsL = some cs) (hm : AV.ments l cs = false)
    (hf : freshB ⟨opNames ⟨some d, .box e x, ty, pos, af, none⟩, S, postOf ds l (.cells cs) d (.loc l 0), [l]⟩ S = true) (h : Trace P ro ops r (S.after ds l (.cells cs) d (.loc l 0)) L S') :
    Trace P ro ops (⟨some d, .box e x, ty, pos, af, none⟩ :: r) S (⟨opNames ⟨some d, .box e x, ty, pos, af, none⟩ ++ ([] : List Nat).map bk, S, postOf ds l (.cells cs) d (.loc l 0), [l]⟩ :: L) S' := by
  refine Trace.new ds (axOp_new rfl rfl (fun _ h => nomatch h) fun E V M a w h => ?_) (by simpa using hf) h
  have h1 := cells_of (h.opd x (by simp [Op.operands]) _ e1) hcs
  generalize a.eval = ρ at *
  refine ⟨w.alloc (.cells (ρ x).cells e), .pointer (some ⟨w.heap.size, 0, none⟩), some 0, ?_, WStep.alloc w _, ?_, ?_⟩
  · simp only [execOp, Instr.box, Sem.run_bind, Result.andThen, run_newVar, Sem.run_pure]
  · have h2 := h1.relab (m := l) w.heap.size (some 0) (fun x hx hmx => by rw [ments_of_mem hx (ment_of hmx)] at hm; cases hm)
    refine ⟨by simp, (ρ x).cells, e, by rw [Vals.set_ρ, heap_alloc], by simpa using h2.len.symm, fun j x y hx hy => h2.at' j x y hx (by simpa using hy)⟩
  · have := Den.loc (V := V.set l w.heap.size (some 0)) (M := M) l 0
    rwa [Vals.set_ρ] at this
end

def dsOfAV : AV → Option (List D)
  | .d (.agg l) => some l
  | .d (.v u) => bif single u then some [.v u] else none
  | .d (.rows a b c) => some [.rows a b c]
  | _ => none
section
variable {o : Oper} {x y z : Operand} {d t : Nat} {ty e s : TypeId} {pos : String} {af : Array Edge}
theorem dsOfAV_cells {u : AV} {ds : List D} (h : dsOfAV u = some ds) : u.cellsL = some (ds.map .d) := by
  cases u with
  | d x =>
    cases x with
    | v u => simp only [dsOfAV] at h; cases hs : single u with
      | true => rw [hs] at h; simp at h; subst h; simp [AV.cellsL, hs]
      | false => rw [hs] at h; simp at h
    | rows => simp only [dsOfAV, Option.some.injEq] at h; subst h; rfl
    | agg l => simp only [dsOfAV, Option.some.injEq] at h; subst h; rfl
  | _ => simp [dsOfAV] at h
/-- A variable of plain data. -/
theorem Trace.boxD {S' : St} {r : List Oper} {L : List Ax} (l : Nat) (ds : List Nat) {u : AV} {dl : List D} (e1 : Ev S true x u) (hcs : dsOfAV u = some dl)
    (hf : freshB ⟨opNames ⟨some d, .box e x, ty, pos, af, none⟩, S, postOf ds l (.data dl) d (.loc l 0), [l]⟩ S = true) (h : Trace P ro ops r (S.after ds l (.data dl) d (.loc l 0)) L S') :
    Trace P ro ops (⟨some d, .box e x, ty, pos, af, none⟩ :: r) S (⟨opNames ⟨some d, .box e x, ty, pos, af, none⟩ ++ ([] : List Nat).map bk, S, postOf ds l (.data dl) d (.loc l 0), [l]⟩ :: L) S' := by
  refine Trace.new ds (axOp_new rfl rfl (fun _ h => nomatch h) fun E V M a w h => ?_) (by simpa using hf) h
  have h1 := cells_of (h.opd x (by simp [Op.operands]) _ e1) (dsOfAV_cells hcs)
  generalize a.eval = ρ at *
  refine ⟨w.alloc (.cells (ρ x).cells e), .pointer (some ⟨w.heap.size, 0, none⟩), some 0, ?_, WStep.alloc w _, ?_, ?_⟩
  · simp only [execOp, Instr.box, Sem.run_bind, Result.andThen, run_newVar, Sem.run_pure]
  · have h2 := h1.relab (m := l) w.heap.size (some 0) (fun x hx hmx => by obtain ⟨y, _, rfl⟩ := List.mem_map.1 hx; cases hmx)
    refine ⟨by simp, (ρ x).cells, e, by rw [Vals.set_ρ, heap_alloc], by simpa using h2.len.symm, fun j x y hx hy => h2.at' j x y hx (by simpa using hy)⟩
  · have := Den.loc (V := V.set l w.heap.size (some 0)) (M := M) l 0
    rwa [Vals.set_ρ] at this
end

/-! 'fill': parts laid into cells. -/
theorem fold_splice (us : List Value) : ∀ (off : Nat) (k : Nat) (cells : List Value), off + k + us.length ≤ cells.length →
    (us.zipIdx k).foldl (fun (cs : Array Value) (x : Value × Nat) => cs.setIfInBounds (off + x.2) x.1) cells.toArray = (spliceL cells (off + k) us).toArray := by
  induction us with
  | nil => intro off k cells h; simp [spliceL]
  | cons u r ih =>
    intro off k cells h
    simp only [List.zipIdx_cons, List.foldl_cons]
    have hlt : off + k < cells.length := by simp at h; omega
    have e1 : cells.toArray.setIfInBounds (off + k) u = (cells.set (off + k) u).toArray := by simp
    rw [e1, ih off (k + 1) _ (by simp at h ⊢; omega)]
    congr 1
    apply List.ext_getElem?
    intro j
    rw [spliceL_get (by simp at h ⊢; omega), spliceL_get (by simpa [Nat.add_assoc] using h)]
    by_cases h1 : j = off + k
    · subst h1
      rw [if_neg (by omega), if_pos (by simp)]
      simp [hlt]
    · rw [List.getElem?_set_ne (Ne.symm h1)]
      by_cases h2 : off + k + 1 ≤ j ∧ j < off + k + 1 + r.length
      · rw [if_pos (by omega), if_pos (by simp; omega)]
        have : j - (off + k) = (j - (off + (k + 1))) + 1 := by omega
        rw [this]; simp
      · rw [if_neg (by omega), if_neg (by simp; omega)]

theorem fill_cons {place : Nat → Option (Nat × Nat)} {cells : List Value} {i off size : Nat} {v : Value} {rest : List (Nat × Value)} (hp : place i = some (off, size)) (hs : v.cells.size = size) (ho : off + size ≤ cells.length) :
    Instr.fill place cells.toArray ((i, v) :: rest) = Instr.fill place (spliceL cells off v.cells.toList).toArray rest := by
  subst hs
  simp only [Instr.fill, hp]
  have hb : (decide (v.cells.size ≠ v.cells.size) || decide (off + v.cells.size > cells.toArray.size)) = false := by simp; omega
  simp only [hb, Bool.false_eq_true, if_false]
  have := fold_splice v.cells.toList off 0 cells (by simpa using ho)
  simp only [Nat.add_zero] at this
  rw [← this]
  congr 1
  rw [← Array.foldl_toList, Array.toList_zipIdx]

/-- What 'fill' comes to, part by part, on abstract cells. -/
inductive Fills (S : St) : (Nat → Option (Nat × Nat)) → List AV → List (Nat × Operand) → List AV → Prop
  | nil (place : Nat → Option (Nat × Nat)) (l : List AV) : Fills S place l [] l
  | cons {place : Nat → Option (Nat × Nat)} {l l' us : List AV} {i off : Nat} {x : Operand} {u : AV} {r : List (Nat × Operand)} (e : Ev S true x u) (hu : u.cellsL = some us) (hp : place i = some (off, us.length)) (ho : off + us.length ≤ l.length)
      (h : Fills S place (spliceL l off us) r l') : Fills S place l ((i, x) :: r) l'

theorem fills_run {place : Nat → Option (Nat × Nat)} {l l' : List AV} {ps : List (Nat × Operand)} (h : Fills S place l ps l') {V : Vals} {M : Mem} {ρ : Operand → Value} :
    (∀ p ∈ ps, ∀ y, Ev S true p.2 y → Den V M y (ρ p.2)) → ∀ {vs : List Value}, DenL V M l vs → ∃ vs', Instr.fill place vs.toArray (ps.map fun p => (p.1, ρ p.2)) = some vs'.toArray ∧ DenL V M l' vs' := by
  induction h with
  | nil l => intro _ vs hv; exact ⟨vs, rfl, hv⟩
  | @cons l l' us i off x u r e hu hp ho h ih =>
    intro hd vs hv
    have h1 := cells_of (hd (i, x) (by simp) u e) hu
    have hsz : (ρ x).cells.size = us.length := by simpa using h1.len.symm
    obtain ⟨vs', hf, hv'⟩ := ih (fun p hp => hd p (by simp [hp])) (hv.splice h1 ho)
    refine ⟨vs', ?_, hv'⟩
    rw [List.map_cons, fill_cons hp hsz (by rw [← hv.len]; exact ho)]
    exact hf

def vals (zs : List Value) : List AV := zs.map fun z => .d (.v z)
theorem denL_vals (V : Vals) (M : Mem) (zs : List Value) : DenL V M (vals zs) zs :=
  ⟨by simp [vals], fun j x y hx hy => by
    simp only [vals, List.getElem?_map, Option.map_eq_some_iff] at hx
    obtain ⟨z, hz, rfl⟩ := hx
    rw [hz] at hy; injection hy with hy; subst hy
    exact .d _ _ (.v _)⟩

/-- Where each field of a struct, or each element of an array, lies. -/
def PlacesAre (P : Program) (t : TypeId) (place : Nat → Option (Nat × Nat)) : Prop :=
  (∃ fs places, P.underlying t = some (.struct fs) ∧ (∀ w, (fs.mapM fun f => (do pure (f.offset, ← sizeOf f.type) : Sem (Nat × Nat))).run P w = .ok places w) ∧ place = (places[·]?)) ∨
  (∃ n e size, P.underlying t = some (.array n e) ∧ (∀ w, (sizeOf e).run P w = .ok size w) ∧ place = fun i => some (i * size, size))

theorem Pure.build {c : Bool} {parts : Array (Nat × Operand)} {zs : List Value} {place : Nat → Option (Nat × Nat)} {l : List AV} {d : Option Tmp} {t ty : TypeId} {pos : String} {af : Array Edge} (hz : ZeroIs P t zs) (hp : PlacesAre P t place) (hf : Fills S place (vals zs) parts.toList l)
    (hc : c = true) : Pure P S [] ⟨d, .build t parts, ty, pos, af, none⟩ c (mkAgg l) := by
  subst hc
  refine ⟨(fun _ h => nomatch h), fun E V M a w h _ => ?_⟩
  have hop : ∀ p ∈ parts.toList, ∀ y, Ev S true p.2 y → Den V M y (a.eval p.2) := fun p hp y hy => h.opd p.2 (by simp only [Op.operands, List.mem_toArray, List.mem_map]; exact ⟨p, hp, rfl⟩) y hy
  generalize a.eval = ρ at *
  obtain ⟨z, hzs, hr⟩ := zeroIs_run hz
  obtain ⟨vs', hfl, hv'⟩ := fills_run hf hop (denL_vals V M zs)
  have hzc : z.cells = zs.toArray := by rw [← hzs, Array.toArray_toList]
  have hmap : (parts.map fun x => (x.1, ρ x.2)).toList = parts.toList.map fun p => (p.1, ρ p.2) := by simp
  refine ⟨.agg vs'.toArray, ?_, den_mkAgg (.agg _ _ hv'.len hv'.at')⟩
  rcases hp with ⟨fs, places, hu, hpl, rfl⟩ | ⟨n, e, size, hu, hsz, rfl⟩
  · simp only [execOp, Instr.build, Sem.run_bind, hr, run_underlying hu, Result.andThen, hpl, hmap, hzc, hfl, Sem.run_pure]
  · simp only [execOp, Instr.build, Sem.run_bind, hr, run_underlying hu, Result.andThen, hsz, hmap, hzc, hfl, Sem.run_pure]

theorem Pure.buildG {c : Bool} {parts : Array (Nat × Operand)} {zs : List Value} {place : Nat → Option (Nat × Nat)} {l : List AV} {d : Option Tmp} {t ty : TypeId} {pos : String} {af : Array Edge} {gd : Option (Nat × Bool)} (hz : ZeroIs P t zs) (hp : PlacesAre P t place) (hf : Fills S place (vals zs) parts.toList l) :
    Pure P S [] ⟨d, .build t parts, ty, pos, af, gd⟩ c (mkAgg l) := by
  refine ⟨(fun _ h => nomatch h), fun E V M a w h hc => ?_⟩
  subst hc
  have hop : ∀ p ∈ parts.toList, ∀ y, Ev S true p.2 y → Den V M y (a.eval p.2) := fun p hp y hy => h.opd p.2 (by simp only [Op.operands, List.mem_toArray, List.mem_map]; exact ⟨p, hp, rfl⟩) y hy
  generalize a.eval = ρ at *
  obtain ⟨z, hzs, hr⟩ := zeroIs_run hz
  obtain ⟨vs', hfl, hv'⟩ := fills_run hf hop (denL_vals V M zs)
  have hzc : z.cells = zs.toArray := by rw [← hzs, Array.toArray_toList]
  have hmap : (parts.map fun x => (x.1, ρ x.2)).toList = parts.toList.map fun p => (p.1, ρ p.2) := by simp
  refine ⟨.agg vs'.toArray, ?_, den_mkAgg (.agg _ _ hv'.len hv'.at')⟩
  rcases hp with ⟨fs, places, hu, hpl, rfl⟩ | ⟨n, e, size, hu, hsz, rfl⟩
  · simp only [execOp, Instr.build, Sem.run_bind, hr, run_underlying hu, Result.andThen, hpl, hmap, hzc, hfl, Sem.run_pure]
  · simp only [execOp, Instr.build, Sem.run_bind, hr, run_underlying hu, Result.andThen, hsz, hmap, hzc, hfl, Sem.run_pure]

end Go.Proofs.Ytcnikeonaklkoaa
