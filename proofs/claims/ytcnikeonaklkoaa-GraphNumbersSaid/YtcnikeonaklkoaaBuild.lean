/- Composite literals of slices, make, cuts; and turns of a state that no operation makes: forgetting, renaming, freezing. No program in sight. -/
import Derived.Test.YtcnikeonaklkoaaAppend
namespace Go.Proofs.Ytcnikeonaklkoaa
open Go
set_option linter.unusedVariables false
set_option linter.unusedSimpArgs false
variable {P : Program} {S : St} {ro : Ro} {ops : Array Oper}

/-! A column out of given cells. -/
def intsOf? (k : IntKind) : List D → Option (List Int)
  | [] => some []
  | .v (.int k' m) :: r => if k = k' then (match intsOf? k r with | some l => some (m :: l) | none => none) else none
  | _ :: _ => none
def boolsOf? : List D → Option (List Bool)
  | [] => some []
  | .v (.bool m) :: r => (match boolsOf? r with | some l => some (m :: l) | none => none)
  | _ :: _ => none
def colOf (l : List D) : Col := match l with
  | .v (.int k _) :: _ => (match intsOf? k l with | some xs => .ints k xs | none => .ds l)
  | .v (.bool _) :: _ => (match boolsOf? l with | some xs => .bools xs | none => .ds l)
  | _ => .ds l
theorem intsOf_eq {k : IntKind} : ∀ {l : List D} {xs : List Int}, intsOf? k l = some xs → l = xs.map fun m => .v (.int k m)
  | [], xs, h => by simp only [intsOf?, Option.some.injEq] at h; subst h; rfl
  | x :: r, xs, h => by
    cases x with
    | v u =>
      cases u with
      | int k' m =>
        simp only [intsOf?] at h
        split at h
        · rename_i hk; subst hk
          split at h
          · rename_i l hl; injection h with h; subst h; rw [intsOf_eq hl]; rfl
          · cases h
        · cases h
      | _ => simp [intsOf?] at h
    | _ => simp [intsOf?] at h
theorem boolsOf_eq : ∀ {l : List D} {xs : List Bool}, boolsOf? l = some xs → l = xs.map fun m => .v (.bool m)
  | [], xs, h => by simp only [boolsOf?, Option.some.injEq] at h; subst h; rfl
  | x :: r, xs, h => by
    cases x with
    | v u =>
      cases u with
      | bool m =>
        simp only [boolsOf?] at h
        split at h
        · rename_i l hl; injection h with h; subst h; rw [boolsOf_eq hl]; rfl
        · cases h
      | _ => simp [boolsOf?] at h
    | _ => simp [boolsOf?] at h
theorem colOf_spec (l : List D) : (colOf l).len = l.length ∧ ∀ i, i < l.length → (colOf l).at i = l.getD i (.v .nilFunc) := by
  unfold colOf
  split
  · split
    · rename_i xs h
      have := intsOf_eq h
      rw [this]
      refine ⟨by simp [Col.len], fun i hi => ?_⟩
      simp only [Col.at]
      rw [getD_map' _ _ 0 _ (by simpa using hi)]
    · exact ⟨rfl, fun i hi => rfl⟩
  · split
    · rename_i xs h
      have := boolsOf_eq h
      rw [this]
      refine ⟨by simp [Col.len], fun i hi => ?_⟩
      simp only [Col.at]
      rw [getD_map' _ _ false _ (by simpa using hi)]
    · exact ⟨rfl, fun i hi => rfl⟩
  · exact ⟨rfl, fun i hi => rfl⟩
def colsFrom (n len : Nat) (ds : List D) : List Col := (List.range n).map fun j => colOf ((List.range len).map fun i => ds.getD (i * n + j) (.v .nilFunc))
theorem colsFrom_rows {V : Vals} {M : Mem} {n len : Nat} {ds : List D} {vs : List Value} (hl : ds.length = len * n) (h : DenL V M (ds.map .d) vs) : RowsL M n len (colsFrom n len ds) vs := by
  refine ⟨by simp [colsFrom], fun c hc => ?_, by rw [← hl]; simpa using h.len.symm, fun i j c hi hc => ?_⟩
  · obtain ⟨j, _, rfl⟩ := List.mem_map.1 hc
    rw [(colOf_spec _).1]; simp
  · simp only [colsFrom, List.getElem?_map, Option.map_eq_some_iff] at hc
    obtain ⟨j', hj', rfl⟩ := hc
    have hj : j < n := by simpa using (List.getElem?_eq_some_iff.1 hj').1
    rw [List.getElem?_range hj] at hj'
    injection hj' with hj'; subst hj'
    have : (i + 1) * n ≤ len * n := Nat.mul_le_mul_right n hi
    rw [Nat.add_mul, Nat.one_mul] at this
    have hlt : i * n + j < ds.length := by omega
    have hlv : i * n + j < vs.length := by have := h.len; simp at this; omega
    refine ⟨vs[i * n + j], List.getElem?_eq_getElem hlv, ?_⟩
    rw [(colOf_spec _).2 i (by simpa using hi), getD_map' _ _ 0 _ (by simpa using hi)]
    have hri : (List.range len).getD i 0 = i := by simp [List.getD_eq_getElem?_getD, hi]
    rw [hri, List.getD_eq_getElem?_getD, List.getElem?_eq_getElem hlt, Option.getD_some]
    have := h.at' (i * n + j) (.d ds[i * n + j]) vs[i * n + j] (by simp [hlt]) (List.getElem?_eq_getElem hlv)
    cases this with | d _ _ h => exact h

/-- What fills a new row: the zero value's cells, over and over. -/
theorem zeros_arr (zs : List Value) (N : Nat) (hn : 0 < zs.length) : (Array.range N).map (fun k => zs.toArray[k % zs.toArray.size]!) = ((List.range N).map fun k => zs.getD (k % zs.length) undef).toArray := by
  apply Array.ext'
  simp only [Array.toList_map, Array.toList_range]
  apply List.map_congr_left
  intro k hk
  have : k % zs.length < zs.length := Nat.mod_lt _ hn
  simp only [List.size_toArray]
  rw [getElem!_pos zs.toArray (k % zs.length) (by simpa using this)]
  simp [List.getD_eq_getElem?_getD, this]
theorem zeros_run {t : TypeId} {z : Value} {N : Nat} {w : World} {α : Type} {k : Array Value → Sem α} {r : Result α} (hr : (zeroValue t).run P w = .ok z w) (h : (k z.cells).run P w = r) (h0 : N = 0 → (k #[]).run P w = r) :
    (if N = 0 then (do let zero ← (_root_.Pure.pure #[] : Sem (Array Value)); k zero) else (do let v ← zeroValue t; let zero ← (_root_.Pure.pure v.cells : Sem (Array Value)); k zero)).run P w = r := by
  by_cases hN : N = 0
  · rw [if_pos hN]; exact h0 hN
  · rw [if_neg hN, Sem.run_bind, hr]; exact h

section
variable {x y : Operand} {ty t e : TypeId} {pos : String} {af : Array Edge} {d : Nat}

def sliceOf (P : Program) (t e n : Nat) : Bool := (match P.underlying t with | some (.slice e') => Nat.beq e' e | _ => false) && (match P.info? e with | some i => Nat.beq i.size n | none => false)
theorem sliceOf_of {n : Nat} (h : sliceOf P t e n = true) : P.underlying t = some (.slice e) ∧ ∀ w, (sizeOf e).run P w = .ok n w := by
  simp only [sliceOf, Bool.and_eq_true] at h
  obtain ⟨h1, h2⟩ := h
  constructor
  · split at h1
    · rename_i e' hu; rw [hu, Nat.eq_of_beq_eq_true h1]
    · cases h1
  · intro w
    cases hi : P.info? e with
    | none => rw [hi] at h2; cases h2
    | some i => rw [hi] at h2; rw [run_sizeOf _ hi]; simp [Program.cellsOf, hi, Nat.eq_of_beq_eq_true h2]

/-- []T{..}: all elements given or zero. -/
theorem Trace.buildSlice {S' : St} {r : List Oper} {L : List Ax} {parts : Array (Nat × Operand)} {zs : List Value} {n len : Nat} {l : List AV} {dl : List D} {cs : List Col} (lb : Nat) (ds : List Nat)
    (ht : sliceOf P t e n = true) (hz : ZeroIs P e zs) (hzn : zs.length = n) (hn : 0 < n) (hlen : len * n ≤ 16777216) (hf : Fills S (fun i => some (i * n, n)) (vals ((List.range (len * n)).map fun k => zs.getD (k % n) undef)) parts.toList l)
    (hd : dsOf l = some dl) (hcs : colsFrom n len dl = cs)
    (hfr : freshB ⟨opNames ⟨some d, .buildSlice t len parts, ty, pos, af, none⟩, S, postOf ds lb (.app n len cs) d (.own lb len), [lb]⟩ S = true) (h : Trace P ro ops r (S.after ds lb (.app n len cs) d (.own lb len)) L S') :
    Trace P ro ops (⟨some d, .buildSlice t len parts, ty, pos, af, none⟩ :: r) S (⟨opNames ⟨some d, .buildSlice t len parts, ty, pos, af, none⟩ ++ ([] : List Nat).map bk, S, postOf ds lb (.app n len cs) d (.own lb len), [lb]⟩ :: L) S' := by
  subst hcs
  refine Trace.new ds (axOp_new rfl rfl (fun _ h => nomatch h) fun E V M a w h => ?_) (by simpa using hfr) h
  have hop : ∀ p ∈ parts.toList, ∀ y, Ev S true p.2 y → Den V M y (a.eval p.2) := fun p hp y hy => h.opd p.2 (by simp only [Op.operands, List.mem_toArray, List.mem_map]; exact ⟨p, hp, rfl⟩) y hy
  generalize a.eval = ρ at *
  obtain ⟨z, hzs, hr⟩ := zeroIs_run hz
  obtain ⟨hu, hsz⟩ := sliceOf_of ht
  obtain ⟨vs', hfl, hv'⟩ := fills_run hf hop (denL_vals V M _)
  have hds := dsOf_eq hd
  subst hds
  have hlv : vs'.length = len * n := by
    have : ∀ {place : Nat → Option (Nat × Nat)} {l l' : List AV} {ps : List (Nat × Operand)}, Fills S place l ps l' → l'.length = l.length := by
      intro place l l' ps hf
      induction hf with
      | nil => rfl
      | cons e hu hp ho h ih => rw [ih, spliceL_length ho]
    have h1 := this hf
    rw [← hv'.len, h1]
    simp [vals]
  have hdl : dl.length = len * n := by have := hv'.len; simp at this; omega
  have hrl := colsFrom_rows hdl hv'
  have hzc : z.cells = zs.toArray := by rw [← hzs, Array.toArray_toList]
  have hmap : (parts.map fun x => (x.1, ρ x.2)).toList = parts.toList.map fun p => (p.1, ρ p.2) := by simp
  refine ⟨w.alloc (.cells vs'.toArray e), .slice (some ⟨w.heap.size, 0, none⟩) len len, some len, ?_, WStep.alloc w _, ?_, ?_⟩
  · have hbig : ¬ (len * n > 2 ^ 24) := by omega
    have hfl' : Instr.fill (fun i => some (i * n, n)) ((Array.range (len * n)).map fun i => z.cells[i % z.cells.size]!) ((parts.map fun x => (x.1, ρ x.2)).toList) = some vs'.toArray := by
      rw [hmap, hzc, zeros_arr zs _ (by omega), hzn]; exact hfl
    have hb : (Instr.buildSlice t len (parts.map fun x => (x.1, ρ x.2))).run P w = .ok (.slice (some ⟨w.heap.size, 0, none⟩) len len) (w.alloc (.cells vs'.toArray e)) := by
      unfold Instr.buildSlice
      simp only [Sem.run_bind, run_underlying hu, Result.andThen, hsz, hbig, if_false]
      refine zeros_run (P := P) (hr w) ?_ fun h0 => ?_
      · rw [hfl']; simp [newRow]
      · have e0 : ((Array.range (len * n)).map fun x => (#[] : Array Value)[x % (#[] : Array Value).size]!) = (Array.range (len * n)).map fun i => z.cells[i % z.cells.size]! := by rw [h0]; simp
        rw [e0, hfl']; simp [newRow]
    simp only [execOp, Sem.run_bind, hb, Result.andThen]
    rfl
  · refine ⟨hrl.1, hrl.2.1, ?_⟩
    rw [Vals.set_κ]
    refine ⟨Nat.le_refl _, vs'.toArray, e, by rw [Vals.set_ρ, heap_alloc], by simp [hlv], ?_⟩
    have := hrl.at (vs := [])
    simpa using this
  · have := Den.own (V := V.set lb w.heap.size (some len)) (M := M) lb len len (by rw [Vals.set_κ]) (Nat.le_refl _)
    rw [Vals.set_ρ] at this
    exact this

/-! make([]T, len, cap). -/
def repCols (len : Nat) (zs : List Value) : List Col := zs.map fun z => match z with
  | .int k m => .ints k (List.replicate len m)
  | .bool b => .bools (List.replicate len b)
  | u => .ds (List.replicate len (.v u))
theorem repCols_rows {M : Mem} {len cap : Nat} {zs : List Value} (hle : len ≤ cap) : rowsAt M zs.length len (repCols len zs) ((List.range (cap * zs.length)).map fun k => zs.getD (k % zs.length) undef).toArray := by
  refine ⟨by simp [repCols], fun c hc => ?_, fun i j c hi hc => ?_⟩
  · obtain ⟨z, _, rfl⟩ := List.mem_map.1 hc
    cases z <;> simp [Col.len]
  · simp only [repCols, List.getElem?_map, Option.map_eq_some_iff] at hc
    obtain ⟨z, hz, rfl⟩ := hc
    have hj : j < zs.length := (List.getElem?_eq_some_iff.1 hz).1
    have : (i + 1) * zs.length ≤ cap * zs.length := Nat.mul_le_mul_right _ (by omega)
    rw [Nat.add_mul, Nat.one_mul] at this
    have e2 : (i * zs.length + j) % zs.length = j := by rw [Nat.mul_comm, Nat.mul_add_mod]; exact Nat.mod_eq_of_lt hj
    refine ⟨z, ?_, ?_⟩
    · rw [List.getElem?_toArray, List.getElem?_map, List.getElem?_range (by omega)]
      simp [e2, List.getD_eq_getElem?_getD, hz]
    · cases z <;> simp [Col.at, hi, List.getD_eq_getElem?_getD] <;> exact .v _
theorem Trace.makeSlice {S' : St} {r : List Oper} {L : List Ax} {zs : List Value} {n bytes : Nat} {k k' : IntKind} {len cap : Int} {cs : List Col} (lb : Nat) (ds : List Nat)
    (ht : sliceOf P t e n = true) (hb : (P.info? e).map (·.bytes) = some bytes) (hz : ZeroIs P e zs) (hzn : zs.length = n) (hn : 0 < n) (e1 : Ev S true x (iv k len)) (e2 : Ev S true y (iv k' cap)) (h0 : 0 ≤ len ∧ len ≤ cap) (h1 : bytes * cap ≤ 281474976710656) (h2 : cap ≤ 281474976710656)
    (hcs : repCols len.toNat zs = cs)
    (hfr : freshB ⟨opNames ⟨some d, .makeSlice t x y, ty, pos, af, none⟩, S, postOf ds lb (.app n len.toNat cs) d (.own lb len.toNat), [lb]⟩ S = true) (h : Trace P ro ops r (S.after ds lb (.app n len.toNat cs) d (.own lb len.toNat)) L S') :
    Trace P ro ops (⟨some d, .makeSlice t x y, ty, pos, af, none⟩ :: r) S (⟨opNames ⟨some d, .makeSlice t x y, ty, pos, af, none⟩ ++ ([] : List Nat).map bk, S, postOf ds lb (.app n len.toNat cs) d (.own lb len.toNat), [lb]⟩ :: L) S' := by
  subst hcs
  subst hzn
  refine Trace.new ds (axOp_new rfl rfl (fun _ h => nomatch h) fun E V M a w h => ?_) (by simpa using hfr) h
  have hx := h.val (by simp [Op.operands]) e1
  have hy := h.val (by simp [Op.operands]) e2
  generalize a.eval = ρ at *
  obtain ⟨z, hzs, hr⟩ := zeroIs_run hz
  obtain ⟨hu, hsz⟩ := sliceOf_of ht
  have hzc : z.cells = zs.toArray := by rw [← hzs, Array.toArray_toList]
  obtain ⟨inf, hi, hib⟩ : ∃ inf, P.info? e = some inf ∧ inf.bytes = bytes := by
    cases hi : P.info? e with
    | none => rw [hi] at hb; cases hb
    | some inf => rw [hi] at hb; exact ⟨inf, rfl, by simpa using hb⟩
  have hlc : len.toNat ≤ cap.toNat := by omega
  refine ⟨w.alloc (.cells ((List.range (cap.toNat * zs.length)).map fun k => zs.getD (k % zs.length) undef).toArray e), .slice (some ⟨w.heap.size, 0, none⟩) len.toNat cap.toNat, some cap.toNat, ?_, WStep.alloc w _, ?_, ?_⟩
  · have hw1 : IntKind.i64.wrap len = len := IntKind.wrap_in .i64 len (by simp [IntKind.min, IntKind.max, IntKind.signed, IntKind.bits]; omega)
    have hw2 : IntKind.i64.wrap cap = cap := IntKind.wrap_in .i64 cap (by simp [IntKind.min, IntKind.max, IntKind.signed, IntKind.bits]; omega)
    have hti : (typeInfo e).run P w = .ok inf w := run_typeInfo _ hi
    have hbig : ((decide (cap < 0) || decide ((inf.bytes : Int) * cap > 2 ^ 48)) || decide (len < 0) || decide (len > cap)) = false := by
      simp only [Bool.or_eq_false_iff, decide_eq_false_iff_not]
      rw [hib]
      refine ⟨⟨⟨by omega, ?_⟩, by omega⟩, by omega⟩
      have : (2 : Int) ^ 48 = 281474976710656 := by decide
      omega
    have hroom : ∀ m w', (askRoom m).run P w' = .ok () w' := fun m w' => by unfold askRoom; split <;> rfl
    have hb : (Instr.makeSlice t (.int k len) (.int k' cap)).run P w = .ok (.slice (some ⟨w.heap.size, 0, none⟩) len.toNat cap.toNat) (w.alloc (.cells ((List.range (cap.toNat * zs.length)).map fun k => zs.getD (k % zs.length) undef).toArray e)) := by
      unfold Instr.makeSlice
      simp only [Sem.run_bind, run_underlying hu, Result.andThen, asInt, asIntOf, Sem.run_pure, hti, hw1, hw2, hbig, Bool.false_eq_true, if_false, hroom, hsz]
      refine zeros_run (P := P) (hr w) ?_ fun h0 => ?_
      · rw [hzc, zeros_arr zs _ hn]; simp [newRow]
      · have e0 : ((Array.range (cap.toNat * zs.length)).map fun x => (#[] : Array Value)[x % (#[] : Array Value).size]!) = (Array.range (cap.toNat * zs.length)).map fun k => zs.toArray[k % zs.toArray.size]! := by rw [h0]; simp
        rw [e0, zeros_arr zs _ hn]; simp [newRow]
    simp only [execOp, hx, hy, Sem.run_bind, hb, Result.andThen]
    rfl
  · refine ⟨by simp [repCols], (repCols_rows (M := M) hlc).2.1, ?_⟩
    rw [Vals.set_κ]
    exact ⟨hlc, _, e, by rw [Vals.set_ρ, heap_alloc], by simp, repCols_rows hlc⟩
  · have := Den.own (V := V.set lb w.heap.size (some cap.toNat)) (M := M) lb len.toNat cap.toNat (by rw [Vals.set_κ]) hlc
    rw [Vals.set_ρ] at this
    exact this

/-! Cuts. -/
inductive Bound (S : St) (c : Bool) : Option Operand → Nat → Nat → Prop
  | no (d : Nat) : Bound S c none d d
  | to {x : Operand} {k : IntKind} {m : Int} (d : Nat) (e : Ev S c x (iv k m)) (h : c = true → 0 ≤ m) : Bound S c (some x) d m.toNat
theorem bound_run {E : Env} {V : Vals} {M : Mem} {a : Act} {w : World} {o : Oper} {bl : List Nat} {c : Bool} {x : Option Operand} {dd m : Nat} (hg : Given E S o bl c V M a w) (hc : c = true) (hx : ∀ y, x = some y → y ∈ o.op.operands) (h : Bound S c x dd m) :
    (x.map a.eval = none ∧ m = dd) ∨ ∃ k, x.map a.eval = some (.int k m) := by
  cases h with
  | no => exact .inl ⟨rfl, rfl⟩
  | @to x k mm _ e h0 =>
    right
    have hv := hg.val (hx _ rfl) e
    have hm := h0 hc
    refine ⟨k, ?_⟩
    rw [Option.map_some, hv, Int.toNat_of_nonneg hm]
theorem slice_ops {o : Oper} {lo hi : Option Operand} (ho : o.op = .slice t x lo hi none) : x ∈ o.op.operands ∧ (∀ y, lo = some y → y ∈ o.op.operands) ∧ ∀ y, hi = some y → y ∈ o.op.operands := by
  rw [ho]
  refine ⟨by simp [Op.operands], fun y h => by subst h; simp [Op.operands], fun y h => by subst h; simp [Op.operands]⟩
/-- x[lo:hi] of immutable rows. -/
theorem Pure.cutRows {c : Bool} {dt : Option Tmp} {gd : Option (Nat × Bool)} {n len l h : Nat} {g : Nat → List D} {lo hi : Option Operand} (ht : sliceOf P t e n = true) (e1 : Ev S c x (.d (.rows n len g))) (hlo : Bound S c lo 0 l) (hhi : Bound S c hi len h) (hle : c = true → l ≤ h ∧ h ≤ len) :
    Pure P S [] ⟨dt, .slice t x lo hi none, ty, pos, af, gd⟩ c (.d (.rows n (h - l) fun i => g (l + i))) := by
  refine ⟨(fun _ h => nomatch h), fun E V M a w hg hc => ?_⟩
  obtain ⟨h1, h2⟩ := hle hc
  obtain ⟨ox, olo, ohi⟩ := slice_ops (t := t) (x := x) (lo := lo) (hi := hi) (o := ⟨dt, .slice t x lo hi none, ty, pos, af, gd⟩) rfl
  have hx := hg.opd x ox _ e1
  have rlo := bound_run hg hc olo hlo
  have rhi := bound_run hg hc ohi hhi
  obtain ⟨hu, hsz⟩ := sliceOf_of ht
  generalize hex : a.eval x = v at hx
  generalize a.eval = ρ at *
  cases hx with
  | d _ _ hx =>
    cases hx with
    | emp _ _ ad cap =>
      refine ⟨.slice (if cap = l then ad else ad.map (·.add (l * n))) (h - l) (cap - l), ?_, ?_⟩
      · simp only [execOp, hex, Option.map_none, Sem.run_bind, run_slice (cap := cap) hu hsz rlo rhi h1 (by omega), Result.andThen]; rfl
      · have : h - l = 0 := by omega
        rw [this]
        exact .d _ _ (.emp _ _ _ _)
    | rows _ _ _ b o cap hc' hl f hm hd =>
      refine ⟨.slice (if cap = l then some ⟨b, o, none⟩ else (some (⟨b, o, none⟩ : Addr)).map (·.add (l * n))) (h - l) (cap - l), ?_, ?_⟩
      · simp only [execOp, hex, Option.map_none, Sem.run_bind, run_slice (cap := cap) hu hsz rlo rhi h1 (by omega), Result.andThen]; rfl
      · by_cases h0 : h - l = 0
        · rw [h0]; exact .d _ _ (.emp _ _ _ _)
        · rw [if_neg (by omega), Option.map_some, addr_add]
          refine .d _ _ (.rows _ _ _ b (o + l * n) (cap - l) (by omega) (fun i hi => hl _ (by omega)) (fun i j => f (l + i) j) (fun i j hi hj => ?_) (fun i j x hi hx => hd _ j x (by omega) hx))
          have := hm (l + i) j (by omega) hj
          rw [Nat.add_mul] at this
          rw [← this]
          congr 1
          omega
/-- x[lo:hi] of a slice that the function owns. -/
theorem Pure.cutOwn {c : Bool} {dt : Option Tmp} {gd : Option (Nat × Bool)} {n len l h lb : Nat} {lo hi : Option Operand} (ht : sliceOf P t e n = true) (e1 : Ev S c x (.own lb len)) (hlo : Bound S c lo 0 l) (hhi : Bound S c hi len h) (hle : c = true → l ≤ h ∧ h ≤ len) :
    Pure P S [] ⟨dt, .slice t x lo hi none, ty, pos, af, gd⟩ c (.sl lb n l (h - l)) := by
  refine ⟨(fun _ h => nomatch h), fun E V M a w hg hc => ?_⟩
  obtain ⟨h1, h2⟩ := hle hc
  obtain ⟨ox, olo, ohi⟩ := slice_ops (t := t) (x := x) (lo := lo) (hi := hi) (o := ⟨dt, .slice t x lo hi none, ty, pos, af, gd⟩) rfl
  have hx := hg.opd x ox _ e1
  have rlo := bound_run hg hc olo hlo
  have rhi := bound_run hg hc ohi hhi
  obtain ⟨hu, hsz⟩ := sliceOf_of ht
  generalize hex : a.eval x = v at hx
  generalize a.eval = ρ at *
  cases hx with
  | ownNil =>
    refine ⟨.slice (if 0 = l then none else (none : Option Addr).map (·.add (l * n))) (h - l) (0 - l), ?_, ?_⟩
    · simp only [execOp, hex, Option.map_none, Sem.run_bind, run_slice (cap := 0) hu hsz rlo rhi h1 (by omega), Result.andThen]; rfl
    · have : h - l = 0 := by omega
      rw [this]
      exact .slEmp _ _ _ _ _
  | own _ _ cap hk hcap =>
    refine ⟨.slice (if cap = l then some ⟨V.ρ lb, 0, none⟩ else (some (⟨V.ρ lb, 0, none⟩ : Addr)).map (·.add (l * n))) (h - l) (cap - l), ?_, ?_⟩
    · simp only [execOp, hex, Option.map_none, Sem.run_bind, run_slice (cap := cap) hu hsz rlo rhi h1 (by omega), Result.andThen]; rfl
    · by_cases h0 : h - l = 0
      · rw [h0]; exact .slEmp _ _ _ _ _
      · rw [if_neg (by omega), Option.map_some, addr_add, Nat.zero_add]
        exact .sl lb n l (h - l) (cap - l) (by omega) (by rw [hk]; congr 1; omega)
/-- x[lo:hi] of a cut. -/
theorem Pure.cutSl {c : Bool} {dt : Option Tmp} {gd : Option (Nat × Bool)} {n len l h lb l0 : Nat} {lo hi : Option Operand} (ht : sliceOf P t e n = true) (e1 : Ev S c x (.sl lb n l0 len)) (hlo : Bound S c lo 0 l) (hhi : Bound S c hi len h) (hle : c = true → l ≤ h ∧ h ≤ len) :
    Pure P S [] ⟨dt, .slice t x lo hi none, ty, pos, af, gd⟩ c (.sl lb n (l0 + l) (h - l)) := by
  refine ⟨(fun _ h => nomatch h), fun E V M a w hg hc => ?_⟩
  obtain ⟨h1, h2⟩ := hle hc
  obtain ⟨ox, olo, ohi⟩ := slice_ops (t := t) (x := x) (lo := lo) (hi := hi) (o := ⟨dt, .slice t x lo hi none, ty, pos, af, gd⟩) rfl
  have hx := hg.opd x ox _ e1
  have rlo := bound_run hg hc olo hlo
  have rhi := bound_run hg hc ohi hhi
  obtain ⟨hu, hsz⟩ := sliceOf_of ht
  generalize hex : a.eval x = v at hx
  generalize a.eval = ρ at *
  cases hx with
  | slEmp _ _ _ ad cap =>
    refine ⟨.slice (if cap = l then ad else ad.map (·.add (l * n))) (h - l) (cap - l), ?_, ?_⟩
    · simp only [execOp, hex, Option.map_none, Sem.run_bind, run_slice (cap := cap) hu hsz rlo rhi h1 (by omega), Result.andThen]; rfl
    · have : h - l = 0 := by omega
      rw [this]
      exact .slEmp _ _ _ _ _
  | sl _ _ _ _ cap hcap hk =>
    refine ⟨.slice (if cap = l then some ⟨V.ρ lb, l0 * n, none⟩ else (some (⟨V.ρ lb, l0 * n, none⟩ : Addr)).map (·.add (l * n))) (h - l) (cap - l), ?_, ?_⟩
    · simp only [execOp, hex, Option.map_none, Sem.run_bind, run_slice (cap := cap) hu hsz rlo rhi h1 (by omega), Result.andThen]; rfl
    · by_cases h0 : h - l = 0
      · rw [h0]; exact .slEmp _ _ _ _ _
      · rw [if_neg (by omega), Option.map_some, addr_add, ← Nat.add_mul]
        exact .sl lb n (l0 + l) (h - l) (cap - l) (by omega) (by rw [hk]; congr 1; omega)
/-- s[lo:hi] of a string. -/
theorem Pure.cutStr {c : Bool} {dt : Option Tmp} {gd : Option (Nat × Bool)} {s : ByteArray} {l h : Nat} {lo hi : Option Operand} (hu : P.underlying t = some .string) (e1 : Ev S c x (sv s)) (hlo : Bound S c lo 0 l) (hhi : Bound S c hi s.size h) (hle : c = true → l ≤ h ∧ h ≤ s.size) :
    Pure P S [] ⟨dt, .slice t x lo hi none, ty, pos, af, gd⟩ c (sv (s.extract l h)) := by
  refine ⟨(fun _ h => nomatch h), fun E V M a w hg hc => ?_⟩
  obtain ⟨h1, h2⟩ := hle hc
  obtain ⟨ox, olo, ohi⟩ := slice_ops (t := t) (x := x) (lo := lo) (hi := hi) (o := ⟨dt, .slice t x lo hi none, ty, pos, af, gd⟩) rfl
  have hx := hg.val ox e1
  have rlo := bound_run hg hc olo hlo
  have rhi := bound_run hg hc ohi hhi
  generalize a.eval = ρ at *
  refine ⟨.string (s.extract l h), ?_, .d _ _ (.v _)⟩
  rcases rlo with ⟨r1, rfl⟩ | ⟨k, r1⟩ <;> rcases rhi with ⟨r2, rfl⟩ | ⟨k', r2⟩ <;>
    simp [execOp, hx, r1, r2, Instr.sliceAt, Instr.slice, run_underlying hu, Instr.sliceBounds, Instr.sliceBound, asIntOf, h1, h2]
end

end Go.Proofs.Ytcnikeonaklkoaa
