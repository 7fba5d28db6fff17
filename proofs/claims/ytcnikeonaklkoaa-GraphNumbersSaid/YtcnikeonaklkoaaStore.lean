/- Stores into blocks of the function's own. No program in sight. -/
import Derived.Test.YtcnikeonaklkoaaCall
namespace Go.Proofs.Ytcnikeonaklkoaa
open Go
set_option linter.unusedVariables false
set_option linter.unusedSimpArgs false
variable {P : Program} {S : St} {ro : Ro} {ops : Array Oper}

theorem Pure.to {bl : List Nat} {o : Oper} {c : Bool} {x y : AV} (h : Pure P S bl o c x) (e : x = y) : Pure P S bl o c y := e ▸ h
theorem mkAgg_map (ds : List D) : mkAgg (ds.map .d) = .d (.agg ds) := by
  have : dsOf (ds.map .d) = some ds := by
    induction ds with
    | nil => rfl
    | cons x r ih => simp [dsOf, ih]
  simp [mkAgg, this]
theorem Pure.loadAllD {c : Bool} {l n : Nat} {ds : List D} {d : Option Tmp} {t ty : TypeId} {x : Operand} {pos : String} {af : Array Edge} {gd : Option (Nat × Bool)} (ht : tyOK P t true n = true) (e1 : Ev S c x (.loc l 0)) (hb : S.get (bk l) = some (.blk (.data ds))) (hn : ds.length = n) :
    Pure P S [l] ⟨d, .load t x, ty, pos, af, gd⟩ c (.d (.agg ds)) := by
  refine (Pure.loadLocD ht e1 hb (fun _ => by omega)).to ?_
  rw [List.drop_zero, List.take_of_length_le (by omega)]
/-- A whole variable of plain data. -/
theorem Pure.loadAll {c : Bool} {l n : Nat} {ds : List D} {d : Option Tmp} {t ty : TypeId} {x : Operand} {pos : String} {af : Array Edge} {gd : Option (Nat × Bool)} (ht : tyOK P t true n = true) (e1 : Ev S c x (.loc l 0)) (hb : S.get (bk l) = some (.blk (.cells (ds.map .d)))) (hn : ds.length = n) :
    Pure P S [l] ⟨d, .load t x, ty, pos, af, gd⟩ c (.d (.agg ds)) := by
  refine (Pure.loadLoc ht e1 hb (fun _ => by simp [hn])).to ?_
  rw [List.drop_zero, List.take_of_length_le (by simp [hn]), mkAgg_map]
theorem spliceL_all {α : Type} {l us : List α} (h : l.length = us.length) : spliceL l 0 us = us := by
  simp [spliceL, List.drop_eq_nil_of_le (Nat.le_of_eq h)]
theorem iv_eq {k : IntKind} {m n : Int} (h : m = n) : some (Cont.av (iv k m)) = some (Cont.av (iv k n)) := by rw [h]
theorem bv_eq {m n : Bool} (h : m = n) : some (Cont.av (bv m)) = some (Cont.av (bv n)) := by rw [h]
theorem d_eq {m n : D} (h : m = n) : some (Cont.av (.d m)) = some (Cont.av (.d n)) := by rw [h]
theorem blk_eq {m n : Blk} (h : m = n) : some (Cont.blk m) = some (Cont.blk n) := by rw [h]

/-! Operations without a guard, written out. -/
theorem Trace.pu {S0 S' : St} {op : Op} {ty : TypeId} {pos : String} {af : Array Edge} {r : List Oper} {L : List Ax} {t : Nat} {x : AV} (bl : List Nat) (hp : Pure P S0 bl ⟨some t, op, ty, pos, af, none⟩ true x)
    (h : Trace P ro ops r ((sl t, (.av x)) :: S0) L S') :
    Trace P ro ops (⟨some t, op, ty, pos, af, none⟩ :: r) S0 (⟨opNames ⟨some t, op, ty, pos, af, none⟩ ++ [] ++ bl.map bk, S0, [(sl t, some (.av x))], []⟩ :: L) S' :=
  Trace.pure bl hp rfl rfl h
theorem Trace.pg {S0 S' : St} {op : Op} {ty : TypeId} {pos : String} {af : Array Edge} {r : List Oper} {L : List Ax} {t : Nat} {x : AV} (bl : List Nat) {gd : Nat × Bool} {g : List Nat} {c : Bool} (hg : guardIn ops S0 ⟨some t, op, ty, pos, af, some gd⟩ = some (g, c))
    (hp : Pure P S0 bl ⟨some t, op, ty, pos, af, some gd⟩ c x) (h : Trace P ro ops r ((sl t, (.av (.gd c x))) :: S0) L S') :
    Trace P ro ops (⟨some t, op, ty, pos, af, some gd⟩ :: r) S0 (⟨opNames ⟨some t, op, ty, pos, af, some gd⟩ ++ g ++ bl.map bk, S0, [(sl t, some (.av (.gd c x)))], []⟩ :: L) S' :=
  Trace.pure bl hp rfl hg h
theorem Trace.cu {S0 S' : St} {cl : Call} {ty : TypeId} {pos : String} {af : Array Edge} {r : List Oper} {L : List Ax} {t : Nat} {g : FuncId} {args : List AV} {res : D} (hca : CallArgs S0 true cl g args) (hs : FnSpec P g args [] (.d res) [] []) (hg : enterOK P g = true)
    (h : Trace P ro ops r ((sl t, (.av (.d res))) :: S0) L S') :
    Trace P ro ops (⟨some t, .call cl, ty, pos, af, none⟩ :: r) S0 (⟨opNames ⟨some t, .call cl, ty, pos, af, none⟩ ++ [] ++ ([] : List Nat).map bk, S0, [(sl t, some (.av (.d res)))], []⟩ :: L) S' :=
  Trace.callP (fun _ => hs) rfl rfl rfl hca hg h
theorem Trace.ct {S0 S' : St} {cl : Call} {ty : TypeId} {pos : String} {af : Array Edge} {r : List Oper} {L : List Ax} {t : Nat} {g : FuncId} {args : List AV} {ds : List D} (hca : CallArgs S0 true cl g args) (hs : FnSpec P g args [] (.tup (ds.map .d)) [] []) (hg : enterOK P g = true)
    (h : Trace P ro ops r ((sl t, (.av (.tup (ds.map .d)))) :: S0) L S') :
    Trace P ro ops (⟨some t, .call cl, ty, pos, af, none⟩ :: r) S0 (⟨opNames ⟨some t, .call cl, ty, pos, af, none⟩ ++ [] ++ ([] : List Nat).map bk, S0, [(sl t, some (.av (.tup (ds.map .d))))], []⟩ :: L) S' :=
  Trace.callT (fun _ => hs) rfl rfl rfl hca hg ⟨ds, rfl⟩ h
theorem Trace.cg {S0 S' : St} {cl : Call} {ty : TypeId} {pos : String} {af : Array Edge} {r : List Oper} {L : List Ax} {t : Nat} {gd : Nat × Bool} {gs : List Nat} {c : Bool} {g : FuncId} {args : List AV} {res : D} (hgd : guardIn ops S0 ⟨some t, .call cl, ty, pos, af, some gd⟩ = some (gs, c))
    (hca : CallArgs S0 c cl g args) (hs : c = true → FnSpec P g args [] (.d res) [] []) (hg : enterOK P g = true)
    (h : Trace P ro ops r ((sl t, (.av (.gd c (.d res)))) :: S0) L S') :
    Trace P ro ops (⟨some t, .call cl, ty, pos, af, some gd⟩ :: r) S0 (⟨opNames ⟨some t, .call cl, ty, pos, af, some gd⟩ ++ gs ++ ([] : List Nat).map bk, S0, [(sl t, some (.av (.gd c (.d res))))], []⟩ :: L) S' :=
  Trace.callP hs rfl rfl hgd hca hg h

/-- A call's arguments, one by one. -/
inductive EvAll (S : St) (c : Bool) : List Operand → List AV → Prop
  | nil : EvAll S c [] []
  | cons {x : Operand} {y : AV} {xs : List Operand} {ys : List AV} (h : Ev S c x y) (t : EvAll S c xs ys) : EvAll S c (x :: xs) (y :: ys)
theorem EvAll.at' {c : Bool} {xs : List Operand} {ys : List AV} (h : EvAll S c xs ys) : ys.length = xs.length ∧ ∀ (j : Nat) (x : Operand) (y : AV), xs[j]? = some x → ys[j]? = some y → Ev S c x y := by
  induction h with
  | nil => exact ⟨rfl, fun j x y hx _ => by simp at hx⟩
  | cons h t ih =>
    refine ⟨by simp [ih.1], fun j x y hx hy => ?_⟩
    cases j with
    | zero => simp at hx hy; subst hx; subst hy; exact h
    | succ j => simp at hx hy; exact ih.2 j x y hx hy
theorem callArgs {c : Bool} {f : Operand} {l : List Operand} {ts : Array TypeId} {g : FuncId} {cs xs : List AV} (hf : Ev S c f (.fn g cs)) (h : EvAll S c l xs) : CallArgs S c ⟨.value f, l.toArray, ts⟩ g (xs ++ cs) :=
  ⟨f, cs, xs, rfl, hf, rfl, by simpa using h.at'.1, fun j x y hx hy => h.at'.2 j x y (by simpa using hx) hy⟩
theorem callArgs0 {c : Bool} {l : List Operand} {ts : Array TypeId} {g : FuncId} {xs : List AV} (h : EvAll S c l xs) : CallArgs S c ⟨.value (.func g), l.toArray, ts⟩ g xs := by
  have := callArgs (S := S) (c := c) (f := .func g) (ts := ts) (.plain rfl : Ev S c (.func g) (.fn g [])) h
  simpa using this

/-! One-cell values. -/
def AV.oneB : AV → Bool
  | .d (.v u) => single u
  | .d (.rows _ _ _) => true
  | .d (.agg _) => false
  | .agg _ => false
  | .tup _ => false
  | .gd _ _ => false
  | _ => true
theorem one_of {V : Vals} {M : Mem} {x : AV} {v : Value} (h : Den V M x v) (ho : x.oneB = true) : v.oneCell' = true := by
  cases h with
  | d x v h =>
    cases h with
    | v => cases v <;> simp_all [AV.oneB, single, Value.oneCell']
    | agg => simp [AV.oneB] at ho
    | emp => rfl
    | rows => rfl
  | agg => simp [AV.oneB] at ho
  | tup => simp [AV.oneB] at ho
  | gd => simp [AV.oneB] at ho
  | _ => rfl
theorem DenL.one {V : Vals} {M : Mem} {l : List AV} {vs : List Value} (h : DenL V M l vs) (ho : ∀ x ∈ l, x.oneB = true) : ∀ v ∈ vs, v.oneCell' = true := by
  intro v hv
  obtain ⟨j, hj, rfl⟩ := List.mem_iff_getElem.1 hv
  have hj' : j < l.length := by rw [h.len]; exact hj
  exact one_of (h.at' j l[j] _ (List.getElem?_eq_getElem hj') (List.getElem?_eq_getElem hj)) (ho _ (List.getElem_mem hj'))

theorem WStep.setRow (w : World) (b : Nat) (cs : Array Value) (h : b < w.heap.size) : WStep w (w.setRow b cs) b := WStep.modify w b _ h

theorem run_storeVar {t : TypeId} {agg : Bool} {n : Nat} (ht : tyOK P t agg n = true) {w : World} {b o : Nat} {tt : TypeId} {cur : Array Value} {v : Value} (hv : v.cells.size = n) (hb : w.heap[b]? = some (.cells cur tt (0, 0))) (ho : o + n ≤ cur.size) (h1 : ∀ u ∈ v.cells.toList, u.oneCell' = true) :
    (storeVar t ⟨b, o, none⟩ v).run P w = .ok () (w.setRow b (spliceL cur.toList o v.cells.toList).toArray) := by
  have hst := run_storeCells_at (P := P) b o tt v.cells.toList 0 cur w hb (by simpa [hv] using ho) h1
  simp only [storeVar, Sem.run_bind, tyOK_sizeOf ht, Result.andThen, hv, ne_eq, not_true, if_false, hst]
  simp [spliceL]

/-- A store into a block of ours. -/
theorem axOp_store {S0 : St} {o : Oper} {t : TypeId} {x y : Operand} {l : Nat} {B B' : Blk} (ho : o.op = .store t x y) (hdst : o.dst = none) (hgd : o.guard = none) (hb : S0.get (bk l) = some (.blk B))
    (h : ∀ E V M a w, Given E S0 o [l] true V M a w → V.κ l ≠ none ∧ ∃ off tt cur us, a.eval x = .pointer (some ⟨V.ρ l, off, none⟩) ∧ w.heap[V.ρ l]? = some (.cells cur tt (0, 0)) ∧ (storeVar t ⟨V.ρ l, off, none⟩ (a.eval y)).run P w = .ok () (w.setRow (V.ρ l) us) ∧
      ∀ w', w'.heap[V.ρ l]? = some (.cells us tt (0, 0)) → BlkAt V M w' l B') :
    AxOp P ro ops o ⟨opNames o ++ [bk l], S0, [(bk l, some (.blk B'))], []⟩ := by
  intro E S a w hs _ hok ⟨V, M, ha, hw⟩ Q hpn
  have hg : Given E S0 o [l] true V M a w := given_of (rn := opNames o ++ [bk l]) hs (fun n hn => by simp [hn]) (fun m hm => by simp at hm; subst hm; simp) rfl ha hw
  obtain ⟨hk, off, tt, cur, us, he, hc, hr, hB⟩ := h E V M a w hg
  unfold stepIn
  rw [if_pos (by simp [Region.wanted, hgd])]
  have hrun : (execOp a.eval o).run P w = .ok .skip (w.setRow (V.ρ l) us) := by
    generalize a.eval = ρ at *
    simp only [execOp, ho, Instr.storeAt, he, Instr.sureAddr, Sem.run_bind, Sem.run_pure, Result.andThen, hr]
  refine wpIn_of_skip (fun d h => by rw [ho] at h; cases h) hrun ?_
  rw [hdst]
  have hSl : S.get (bk l) = some (.blk B) := by rw [hs (bk l) (by simp)]; exact hb
  have hlt : V.ρ l < w.heap.size := hw.bd l ⟨⟨B, hSl⟩, hk⟩
  exact ⟨V, M, repA_blk ha l B', repW_write hw hSl hk (WStep.setRow w _ us hlt) (hB _ (setRow_heap w _ _ _ _ _ hc))⟩

theorem Trace.store {S0 S' : St} {r : List Oper} {L : List Ax} {o : Oper} {l : Nat} {B' : Blk} (ha : AxOp P ro ops o ⟨opNames o ++ [bk l], S0, [(bk l, some (.blk B'))], []⟩) (h : Trace P ro ops r ((bk l, (.blk B')) :: S0) L S') :
    Trace P ro ops (o :: r) S0 (⟨opNames o ++ [bk l], S0, [(bk l, some (.blk B'))], []⟩ :: L) S' :=
  .cons ha (fun _ _ => rfl) (fun l hl => by cases hl) (cons_upd S0 _ _) h

section
variable {x y : Operand} {ty t : TypeId} {pos : String} {af : Array Edge}

/-- Into named cells. -/
theorem Trace.storeLoc {S0 S' : St} {r : List Oper} {L : List Ax} {l j n : Nat} {cs us cs' : List AV} {u : AV} {agg : Bool} (ht : tyOK P t agg n = true) (e1 : Ev S0 true x (.loc l j)) (e2 : Ev S0 true y u) (hb : S0.get (bk l) = some (.blk (.cells cs)))
    (hu : u.cellsL = some us) (hn : us.length = n) (h1 : ∀ x ∈ us, x.oneB = true) (hj : j + n ≤ cs.length) (hcs : spliceL cs j us = cs') (h : Trace P ro ops r ((bk l, (.blk (.cells cs'))) :: S0) L S') :
    Trace P ro ops (⟨none, .store t x y, ty, pos, af, none⟩ :: r) S0 (⟨opNames ⟨none, .store t x y, ty, pos, af, none⟩ ++ [bk l], S0, [(bk l, some (.blk (.cells cs')))], []⟩ :: L) S' := by
  refine Trace.store (axOp_store rfl rfl rfl hb fun E V M a w hg => ?_) h
  obtain ⟨hk, vs, tt, hh, hs, hd⟩ := hg.blk l (by simp) _ hb
  have hx := hg.opd x (by simp [Op.operands]) _ e1
  have hy := cells_of (hg.opd y (by simp [Op.operands]) _ e2) hu
  have hcur : DenL V M cs vs.toList := ⟨by simpa using hs.symm, fun j x y h1 h2 => hd j x y h1 (by simpa using h2)⟩
  generalize he : a.eval x = v at hx
  cases hx with
  | loc _ _ =>
    have hsz : (a.eval y).cells.size = n := by have := hy.len; simp at this; omega
    refine ⟨hk, j, tt, vs, (spliceL vs.toList j (a.eval y).cells.toList).toArray, rfl, hh, run_storeVar (o := j) ht hsz hh (by omega) (hy.one h1), fun w' hw' => ?_⟩
    have hsp := hcur.splice (o := j) hy (by omega)
    rw [hcs] at hsp
    exact ⟨hk, _, tt, hw', by simpa using hsp.len.symm, fun j x y h1 h2 => hsp.at' j x y h1 (by simpa using h2)⟩

/-- Plain data into plain data. -/
theorem Trace.storeD {S0 S' : St} {r : List Oper} {L : List Ax} {l j n : Nat} {cs us cs' : List D} {u : AV} {agg : Bool} (ht : tyOK P t agg n = true) (e1 : Ev S0 true x (.loc l j)) (e2 : Ev S0 true y u) (hb : S0.get (bk l) = some (.blk (.data cs)))
    (hu : dsOfAV u = some us) (hn : us.length = n) (h1 : ∀ x ∈ us, (AV.d x).oneB = true) (hj : j + n ≤ cs.length) (hcs : spliceL cs j us = cs') (h : Trace P ro ops r ((bk l, .blk (.data cs')) :: S0) L S') :
    Trace P ro ops (⟨none, .store t x y, ty, pos, af, none⟩ :: r) S0 (⟨opNames ⟨none, .store t x y, ty, pos, af, none⟩ ++ [bk l], S0, [(bk l, some (.blk (.data cs')))], []⟩ :: L) S' := by
  refine Trace.store (axOp_store rfl rfl rfl hb fun E V M a w hg => ?_) h
  obtain ⟨hk, vs, tt, hh, hs, hd⟩ := hg.blk l (by simp) _ hb
  have hx := hg.opd x (by simp [Op.operands]) _ e1
  have hy := cells_of (hg.opd y (by simp [Op.operands]) _ e2) (dsOfAV_cells hu)
  have hcur : DenL V M (cs.map .d) vs.toList := ⟨by simpa using hs.symm, fun j x y h1 h2 => hd j x y h1 (by simpa using h2)⟩
  simp only [List.length_map] at hs
  generalize he : a.eval x = v at hx
  cases hx with
  | loc _ _ =>
    have hsz : (a.eval y).cells.size = n := by have := hy.len; simp at this; omega
    have hone : ∀ u ∈ (a.eval y).cells.toList, u.oneCell' = true := hy.one fun x hx => by
      obtain ⟨z, hz, rfl⟩ := List.mem_map.1 hx; exact h1 z hz
    refine ⟨hk, j, tt, vs, (spliceL vs.toList j (a.eval y).cells.toList).toArray, rfl, hh, run_storeVar (o := j) ht hsz hh (by omega) hone, fun w' hw' => ?_⟩
    have hsp := hcur.splice (o := j) hy (by simp; omega)
    have e : spliceL (cs.map AV.d) j (us.map AV.d) = cs'.map .d := by rw [← hcs]; simp [spliceL]
    rw [e] at hsp
    exact ⟨hk, _, tt, hw', by simpa using hsp.len.symm, fun j x y h1 h2 => hsp.at' j x y h1 (by simpa using h2)⟩
/-- Whatever into plain data. -/
theorem Trace.storeDA {S0 S' : St} {r : List Oper} {L : List Ax} {l j n : Nat} {cs : List D} {us cs' : List AV} {u : AV} {agg : Bool} (ht : tyOK P t agg n = true) (e1 : Ev S0 true x (.loc l j)) (e2 : Ev S0 true y u) (hb : S0.get (bk l) = some (.blk (.data cs)))
    (hu : u.cellsL = some us) (hn : us.length = n) (h1 : ∀ x ∈ us, x.oneB = true) (hj : j + n ≤ cs.length) (hcs : spliceL (cs.map .d) j us = cs') (h : Trace P ro ops r ((bk l, .blk (.cells cs')) :: S0) L S') :
    Trace P ro ops (⟨none, .store t x y, ty, pos, af, none⟩ :: r) S0 (⟨opNames ⟨none, .store t x y, ty, pos, af, none⟩ ++ [bk l], S0, [(bk l, some (.blk (.cells cs')))], []⟩ :: L) S' := by
  refine Trace.store (axOp_store rfl rfl rfl hb fun E V M a w hg => ?_) h
  obtain ⟨hk, vs, tt, hh, hs, hd⟩ := hg.blk l (by simp) _ hb
  have hx := hg.opd x (by simp [Op.operands]) _ e1
  have hy := cells_of (hg.opd y (by simp [Op.operands]) _ e2) hu
  have hcur : DenL V M (cs.map .d) vs.toList := ⟨by simpa using hs.symm, fun j x y h1 h2 => hd j x y h1 (by simpa using h2)⟩
  simp only [List.length_map] at hs
  generalize he : a.eval x = v at hx
  cases hx with
  | loc _ _ =>
    have hsz : (a.eval y).cells.size = n := by have := hy.len; simp at this; omega
    refine ⟨hk, j, tt, vs, (spliceL vs.toList j (a.eval y).cells.toList).toArray, rfl, hh, run_storeVar (o := j) ht hsz hh (by omega) (hy.one h1), fun w' hw' => ?_⟩
    have hsp := hcur.splice (o := j) hy (by simp; omega)
    rw [hcs] at hsp
    exact ⟨hk, _, tt, hw', by simpa using hsp.len.symm, fun j x y h1 h2 => hsp.at' j x y h1 (by simpa using h2)⟩

/-! Into rows. -/
def Col.set? : Col → Nat → D → Option Col
  | .ints k xs, i, .v (.int k' m) => if k = k' then some (.ints k (xs.set i m)) else none
  | .bools xs, i, .v (.bool b) => some (.bools (xs.set i b))
  | .ds xs, i, x => some (.ds (xs.set i x))
  | _, _, _ => none
theorem col_set {c c' : Col} {i : Nat} {x : D} (h : c.set? i x = some c') : c'.len = c.len ∧ ∀ j, j < c.len → c'.at j = if j = i then x else c.at j := by
  have key : ∀ {α : Type} (xs : List α) (m d : α) (j : Nat), j < xs.length → (xs.set i m).getD j d = if j = i then m else xs.getD j d := by
    intro α xs m d j hj
    by_cases h : j = i
    · subst h; simp [List.getD_eq_getElem?_getD, hj]
    · simp [List.getD_eq_getElem?_getD, List.getElem?_set_ne (Ne.symm h), h]
  cases c with
  | ints k xs =>
    cases x with
    | v u =>
      cases u with
      | int k' m =>
        simp only [Col.set?] at h
        split at h
        · rename_i hk; injection h with h; subst h; subst hk
          refine ⟨by simp [Col.len], fun j hj => ?_⟩
          simp only [Col.at, key xs m 0 j hj]
          split <;> rfl
        · cases h
      | _ => simp [Col.set?] at h
    | _ => simp [Col.set?] at h
  | bools xs =>
    cases x with
    | v u =>
      cases u with
      | bool b =>
        simp only [Col.set?, Option.some.injEq] at h; subst h
        refine ⟨by simp [Col.len], fun j hj => ?_⟩
        simp only [Col.at, key xs b false j hj]
        split <;> rfl
      | _ => simp [Col.set?] at h
    | _ => simp [Col.set?] at h
  | ds xs =>
    simp only [Col.set?, Option.some.injEq] at h; subst h
    exact ⟨by simp [Col.len], fun j hj => by simp only [Col.at, key xs x _ j hj]⟩
def setCols : List Col → Nat → Nat → List D → Option (List Col)
  | cs, _, _, [] => some cs
  | [], _, _, _ :: _ => none
  | c :: cs, 0, i, x :: ds => match c.set? i x, setCols cs 0 i ds with
    | some c', some r => some (c' :: r)
    | _, _ => none
  | c :: cs, j + 1, i, ds => match setCols cs j i ds with
    | some r => some (c :: r)
    | none => none
theorem setCols_spec {len i : Nat} : ∀ (cs : List Col) (j : Nat) (ds : List D) (cs' : List Col), setCols cs j i ds = some cs' → (∀ c ∈ cs, c.len = len) →
    cs'.length = cs.length ∧ (ds ≠ [] → j + ds.length ≤ cs.length) ∧ (∀ c ∈ cs', c.len = len) ∧ ∀ i' k c', i' < len → cs'[k]? = some c' → ∃ c, cs[k]? = some c ∧ c'.at i' = if i' = i ∧ j ≤ k ∧ k < j + ds.length then ds.getD (k - j) (.v .nilFunc) else c.at i' := by
  intro cs
  induction cs with
  | nil =>
    intro j ds cs' h hl
    cases ds with
    | nil => simp only [setCols, Option.some.injEq] at h; subst h; exact ⟨rfl, fun h => absurd rfl h, hl, fun i' k c' _ h => by simp at h⟩
    | cons => simp [setCols] at h
  | cons c cs ih =>
    intro j ds cs' h hl
    cases ds with
    | nil =>
      simp only [setCols, Option.some.injEq] at h; subst h
      exact ⟨rfl, fun h => absurd rfl h, hl, fun i' k c' _ h => ⟨c', h, by rw [if_neg (by simp only [List.length_nil]; omega)]⟩⟩
    | cons x ds =>
      cases j with
      | zero =>
        simp only [setCols] at h
        split at h
        · rename_i c1 r h1 h2
          injection h with h; subst h
          obtain ⟨a1, a2⟩ := col_set h1
          obtain ⟨b1, b2, b3, b4⟩ := ih 0 ds r h2 (fun c hc => hl c (by simp [hc]))
          refine ⟨by simp [b1], fun _ => ?_, ?_, ?_⟩
          · by_cases hds : ds = []
            · subst hds; simp
            · have := b2 hds; simp at this ⊢; exact this
          · intro c hc
            rcases List.mem_cons.1 hc with rfl | hc
            · rw [a1]; exact hl _ (by simp)
            · exact b3 c hc
          · intro i' k c' hi hk
            cases k with
            | zero =>
              simp at hk; subst hk
              refine ⟨c, rfl, ?_⟩
              rw [a2 i' (by rw [hl c (by simp)]; exact hi)]
              by_cases h : i' = i <;> simp [h]
            | succ k =>
              simp at hk
              obtain ⟨c0, hc0, he⟩ := b4 i' k c' hi hk
              refine ⟨c0, by simpa using hc0, ?_⟩
              rw [he]
              by_cases h : i' = i ∧ k < ds.length
              · rw [if_pos (by omega), if_pos (by simp; omega)]
                simp
              · rw [if_neg (by omega), if_neg (by simp; omega)]
        · cases h
      | succ j =>
        simp only [setCols] at h
        split at h
        · rename_i r h2
          injection h with h; subst h
          obtain ⟨b1, b2, b3, b4⟩ := ih j (x :: ds) r h2 (fun c hc => hl c (by simp [hc]))
          refine ⟨by simp [b1], fun hne => by have := b2 hne; simp at this ⊢; omega, ?_, ?_⟩
          · intro c' hc
            rcases List.mem_cons.1 hc with rfl | hc
            · exact hl _ (by simp)
            · exact b3 c' hc
          · intro i' k c' hi hk
            cases k with
            | zero =>
              simp at hk; subst hk
              exact ⟨c, rfl, by rw [if_neg (by omega)]⟩
            | succ k =>
              simp at hk
              obtain ⟨c0, hc0, he⟩ := b4 i' k c' hi hk
              refine ⟨c0, by simpa using hc0, ?_⟩
              rw [he]
              by_cases h : i' = i ∧ j ≤ k ∧ k < j + (x :: ds).length
              · rw [if_pos h, if_pos (by omega)]; congr 1; omega
              · rw [if_neg h, if_neg (by omega)]
        · cases h

theorem cellsL_ds {u : AV} {ds : List D} (h : dsOfAV u = some ds) : u.cellsL = some (ds.map .d) := dsOfAV_cells h

theorem rows_splice {M : Mem} {n len i j : Nat} {cs cs' : List Col} {vs : Array Value} {ds : List D} {us : List Value} (hr : rowsAt M n len cs vs) (hlen : len * n ≤ vs.size) (hset : setCols cs j i ds = some cs') (hi : i < len) (hne : ds ≠ [])
    (hus : ds.length = us.length) (hd : ∀ (k : Nat) (x : D) (y : Value), ds[k]? = some x → us[k]? = some y → DenD M x y) : i * n + j + us.length ≤ vs.size ∧ rowsAt M n len cs' (spliceL vs.toList (i * n + j) us).toArray := by
  obtain ⟨h1, h2, h3⟩ := hr
  obtain ⟨a1, a2, a3, a4⟩ := setCols_spec cs j ds cs' hset h2
  have a2 := a2 hne
  have hle : (i + 1) * n ≤ len * n := Nat.mul_le_mul_right n hi
  rw [Nat.add_mul, Nat.one_mul] at hle
  have hsz : i * n + j + us.length ≤ vs.size := by omega
  refine ⟨hsz, by rw [a1, h1], a3, fun i' k c' hi' hk => ?_⟩
  obtain ⟨c, hc, he⟩ := a4 i' k c' hi' hk
  have hkn : k < n := by rw [← h1]; exact (List.getElem?_eq_some_iff.1 hc).1
  obtain ⟨v, hv, hdv⟩ := h3 i' k c hi' hc
  have hsp := spliceL_get (l := vs.toList) (o := i * n + j) (us := us) (by simpa using hsz) (i' * n + k)
  have hiff : (i * n + j ≤ i' * n + k ∧ i' * n + k < i * n + j + us.length) ↔ (i' = i ∧ j ≤ k ∧ k < j + ds.length) := by
    constructor
    · rintro ⟨b1, b2⟩
      have : i' = i := by
        rcases Nat.lt_trichotomy i' i with h | h | h
        · exfalso
          have : (i' + 1) * n ≤ i * n := Nat.mul_le_mul_right n h
          rw [Nat.add_mul, Nat.one_mul] at this
          omega
        · exact h
        · exfalso
          have : (i + 1) * n ≤ i' * n := Nat.mul_le_mul_right n h
          rw [Nat.add_mul, Nat.one_mul] at this
          omega
      subst this
      omega
    · rintro ⟨rfl, b1, b2⟩
      omega
  rw [he]
  by_cases hin : i' = i ∧ j ≤ k ∧ k < j + ds.length
  · rw [if_pos (hiff.2 hin)] at hsp
    rw [if_pos hin]
    obtain ⟨rfl, hjk, hkj⟩ := hin
    have hlt : k - j < us.length := by omega
    have hlt' : k - j < ds.length := by omega
    have hidx : i' * n + k - (i' * n + j) = k - j := by omega
    rw [hidx] at hsp
    refine ⟨us[k - j], by simpa [List.getElem?_eq_getElem hlt] using hsp, hd (k - j) _ _ ?_ (List.getElem?_eq_getElem hlt)⟩
    rw [List.getD_eq_getElem?_getD, List.getElem?_eq_getElem hlt']; rfl
  · rw [if_neg (fun h => hin (hiff.1 h))] at hsp
    rw [if_neg hin]
    exact ⟨v, by simpa [hv] using hsp, hdv⟩

/-- The same block, its columns turned. -/
def Blk.withCols (cs : List Col) : Blk → Blk
  | .cols n len _ => .cols n len cs
  | .app n len _ => .app n len cs
  | b => b

theorem Trace.storeRow {S0 S' : St} {r : List Oper} {L : List Ax} {l n i j len m : Nat} {B : Blk} {cs cs' : List Col} {u : AV} {ds : List D} {agg : Bool} (ht : tyOK P t agg m = true) (e1 : Ev S0 true x (.locr l n i j)) (e2 : Ev S0 true y u) (hb : S0.get (bk l) = some (.blk B))
    (hB : B.rowsOf = some (n, len, cs)) (hu : dsOfAV u = some ds) (hm : ds.length = m) (hne : 0 < m) (h1 : ∀ x ∈ ds, (AV.d x).oneB = true) (hset : setCols cs j i ds = some cs') (hi : i < len) (h : Trace P ro ops r ((bk l, (.blk (B.withCols cs'))) :: S0) L S') :
    Trace P ro ops (⟨none, .store t x y, ty, pos, af, none⟩ :: r) S0 (⟨opNames ⟨none, .store t x y, ty, pos, af, none⟩ ++ [bk l], S0, [(bk l, some (.blk (B.withCols cs')))], []⟩ :: L) S' := by
  refine Trace.store (axOp_store rfl rfl rfl hb fun E V M a w hg => ?_) h
  have hblk := hg.blk l (by simp) _ hb
  have hx := hg.opd x (by simp [Op.operands]) _ e1
  have hy := cells_of (hg.opd y (by simp [Op.operands]) _ e2) (cellsL_ds hu)
  have hsz : (a.eval y).cells.size = m := by have := hy.len; simp at this; omega
  have hone : ∀ u ∈ (a.eval y).cells.toList, u.oneCell' = true := hy.one fun x hx => by
    obtain ⟨z, hz, rfl⟩ := List.mem_map.1 hx; exact h1 z hz
  have hds : ∀ (k : Nat) (x : D) (y' : Value), ds[k]? = some x → (a.eval y).cells.toList[k]? = some y' → DenD M x y' := fun k x y' h1 h2 => by
    have := hy.at' k (.d x) y' (by simp [h1]) h2
    cases this with | d _ _ h => exact h
  have hne' : ds ≠ [] := by intro e; subst e; simp at hm; omega
  have hlen : ds.length = (a.eval y).cells.toList.length := by simp [hsz, hm]
  generalize he : a.eval x = v at hx
  cases hx with
  | locr _ _ _ _ =>
    cases B with
    | cells => simp [Blk.rowsOf] at hB
    | data => simp [Blk.rowsOf] at hB
    | lp => simp [Blk.rowsOf] at hB
    | appv => simp [Blk.rowsOf] at hB
    | cols n' len' cs0 =>
      simp only [Blk.rowsOf, Option.some.injEq, Prod.mk.injEq] at hB
      obtain ⟨rfl, rfl, rfl⟩ := hB
      obtain ⟨hk, vs, tt, hh, hs, hr⟩ := hblk
      obtain ⟨hb1, hb2⟩ := rows_splice hr (by omega) hset hi hne' hlen hds
      exact ⟨hk, _, tt, vs, _, rfl, hh, run_storeVar ht hsz hh (by simpa [hsz] using hb1) hone, fun w' hw' => ⟨hk, _, tt, hw', by rw [List.size_toArray, spliceL_length (by simpa using hb1)]; simpa using hs, hb2⟩⟩
    | app n' len' cs0 =>
      simp only [Blk.rowsOf, Option.some.injEq, Prod.mk.injEq] at hB
      obtain ⟨rfl, rfl, rfl⟩ := hB
      obtain ⟨g1, g2, g3⟩ := hblk
      cases hkl : V.κ l with
      | none => rw [hkl] at g3; simp only at g3; omega
      | some cap =>
        rw [hkl] at g3
        obtain ⟨hcap, vs, tt, hh, hs, hr⟩ := g3
        have hle : len' * n' ≤ cap * n' := Nat.mul_le_mul_right n' hcap
        obtain ⟨hb1, hb2⟩ := rows_splice hr (by omega) hset hi hne' hlen hds
        refine ⟨by simp, _, tt, vs, _, rfl, hh, run_storeVar ht hsz hh (by simpa [hsz] using hb1) hone, fun w' hw' => ⟨hb2.1, hb2.2.1, ?_⟩⟩
        rw [hkl]
        exact ⟨hcap, _, tt, hw', by rw [List.size_toArray, spliceL_length (by simpa using hb1)]; simpa using hs, hb2⟩
end

end Go.Proofs.Ytcnikeonaklkoaa
