import Derived.Test.YtmdfamnnnoieaaaDoorPkH
import Derived.WideKeyRuns
import Derived.Test.YtmdfamnnnoieaaaDoorPkP
/- Sets of arrays of bytes, kept as maps to true. No program in sight. -/
namespace Go.Proofs.YtmdfamnnnoieaaaDoor
open Go
set_option linter.unusedVariables false
set_option linter.unusedSimpArgs false

def mapOK (P : Program) (t : TypeId) (len : Nat) : Bool := match P.underlying t with
  | some (.map k e) => byteArr P k len && (match P.info? e with | some i => (match i.zero with | some (.bool false) => true | _ => false) | none => false)
  | _ => false
theorem mapOK_of {P : Program} {t : TypeId} {len : Nat} (h : mapOK P t len = true) : ∃ k e, P.underlying t = some (.map k e) ∧ byteArr P k len = true ∧ ∀ w, (zeroValue e).run P w = .ok (.bool false) w := by
  unfold mapOK at h
  split at h
  · rename_i k e hu
    simp only [Bool.and_eq_true] at h
    obtain ⟨h1, h2⟩ := h
    split at h2
    · rename_i i hi
      split at h2
      · rename_i hz
        exact ⟨k, e, hu, h1, fun w => by simp [zeroValue, typeInfo, hi, hz]⟩
      · cases h2
    · cases h2
  · cases h
section
variable {P : Program}
theorem run_checkKey_bytes {t : TypeId} {len : Nat} (h : byteArr P t len = true) {xs : List Int} (hx : xs.length = len) (em : Bool) (w : World) : (Instr.checkKey em 10000 t (bytesV xs)).run P w = .ok () w := by
  obtain ⟨e, i, hu, hue, hi, hs, _⟩ := byteArr_of h
  have hsz : (sizeOf e).run P w = .ok 1 w := by simp [sizeOf, typeInfo, hi, hs]
  show (Instr.checkKey em (9998 + 1 + 1) t (bytesV xs)).run P w = _
  unfold bytesV
  rw [Instr.checkKey]
  simp only [Sem.run_bind, run_underlying hu, Result.andThen_ok]
  simp only [Std.Legacy.Range.forIn_eq_forIn_range', Std.Legacy.Range.size, Nat.sub_zero, Nat.add_one_sub_one, Nat.div_one]
  have hin : ∀ j ∈ List.range' 0 len, j < xs.length := fun j hj => by simp at hj; omega
  generalize List.range' 0 len = is at hin
  induction is with
  | nil => simp
  | cons j is ih =>
    have hj := hin j (by simp)
    have p1 : (part e (xs.map fun x => Value.int .u8 x).toArray (j * 1)).run P w = .ok (.int .u8 (xs.getD j 0)) w := run_part1 hue (by simp [hj])
    have p2 : (Instr.checkKey em (9998 + 1) e (.int .u8 (xs.getD j 0))).run P w = .ok () w := by
      rw [Instr.checkKey]
      simp [run_underlying hue]
    simp only [List.forIn_cons, Sem.run_bind, hsz, Result.andThen_ok, p1, p2, Sem.run_pure]
    exact ih fun y hy => hin y (by simp [hy])
theorem bytesV_inj {a b : List Int} : bytesV a = bytesV b ↔ a = b := by
  constructor
  · intro h
    unfold bytesV at h
    injection h with h
    injection h with h
    exact (List.map_inj_right (fun x y e => by injection e)).1 h
  · rintro rfl; rfl
theorem run_findAsking_bytes {t : TypeId} {len : Nat} (h : byteArr P t len = true) {xs : List Int} (hx : xs.length = len) (w : World) : ∀ (es : List MapEntry) (i : Nat), (∀ e ∈ es, ∃ k : List Int, k.length = len ∧ e.key = bytesV k) →
    ∃ r, (Instr.findAsking t (bytesV xs) es i).run P w = .ok r w ∧ (r = none → ∀ e ∈ es, e.key ≠ bytesV xs) ∧ ∀ j v, r = some (j, v) → i ≤ j ∧ ∃ e, es[j - i]? = some e ∧ e.key = bytesV xs ∧ e.val = v
  | [], i, _ => ⟨none, rfl, (fun _ e he => nomatch he), (fun j v hr => nomatch hr)⟩
  | e :: es, i, hk => by
    obtain ⟨k, hkl, hke⟩ := hk e (by simp)
    have heq := run_eq_bytes h hx hkl w
    by_cases hxk : xs = k
    · subst hxk
      refine ⟨some (i, e.val), ?_, fun hr => (by cases hr), fun j v hr => ?_⟩
      · simp only [Instr.findAsking, Sem.run_bind, hke, heq, Result.andThen_ok, decide_true, if_true, Sem.run_pure]
      · injection hr with hr; injection hr with h1 h2; subst h1; subst h2
        exact ⟨Nat.le_refl _, e, by simp, hke, rfl⟩
    · obtain ⟨r, h1, h2, h3⟩ := run_findAsking_bytes h hx w es (i + 1) fun e he => hk e (by simp [he])
      refine ⟨r, ?_, fun hr e' he' => ?_, fun j v hr => ?_⟩
      · simp only [Instr.findAsking, Sem.run_bind, hke, heq, Result.andThen_ok, decide_eq_true_eq, hxk, decide_false, Bool.false_eq_true, if_false]
        exact h1
      · rcases List.mem_cons.1 he' with rfl | he'
        · rw [hke]; exact fun e => hxk (bytesV_inj.1 e).symm
        · exact h2 hr e' he'
      · obtain ⟨g1, e', g2, g3, g4⟩ := h3 j v hr
        refine ⟨by omega, e', ?_, g3, g4⟩
        have : j - i = (j - (i + 1)) + 1 := by omega
        rw [this]
        simpa using g2
theorem run_findKey_bytes {t : TypeId} {len : Nat} (h : byteArr P t len = true) (xs : List Int) (es : List MapEntry) (w : World) : (Instr.findKey t (bytesV xs) es).run P w = (Instr.findAsking t (bytesV xs) es).run P w := by
  obtain ⟨e, i, hu, _⟩ := byteArr_of h
  exact run_findKey_eq w (by rw [hu]) _ _
end
section
variable {P : Program} {S : St} {ro : Ro} {ops : Array Oper} {c : Bool} {x y : Operand} {t ty : TypeId} {pos : String} {af : Array Edge} {gd : Option (Nat × Bool)}
/-- m[k]. -/
theorem Pure.lookupB {d : Option Nat} {len l : Nat} {ks : List (List Int)} {k : List Int} (ht : mapOK P t len = true) (e1 : Ev S c x (.mp l)) (e2 : Ev S c y (.d (byD k))) (hb : S.get (bk l) = some (.blk (.keys ks))) (hk : c = true → k.length = len) (hks : c = true → ∀ q ∈ ks, q.length = len) :
    Pure P S [l] ⟨d, .lookup t x y false, ty, pos, af, gd⟩ c (bv (decide (k ∈ ks))) := by
  refine ⟨(fun _ h => nomatch h), fun E V M a w hg hc => ?_⟩
  have hx := hg.opd x (by simp [Op.operands]) _ e1
  have hy := hg.by (by simp [Op.operands]) e2
  obtain ⟨hκ, es, cl, hh, h1, h2⟩ := hg.blk l (by simp) _ hb
  obtain ⟨kt, et, hu, hba, hz⟩ := mapOK_of ht
  generalize he : a.eval x = v at hx
  generalize a.eval = ρ at *
  cases hx with
  | mp =>
    obtain ⟨r, q1, q2, q3⟩ := run_findAsking_bytes hba (hk hc) w es.toList 0 fun e hm => let ⟨_, q, hq, hke⟩ := h1 e hm; ⟨q, hks hc q hq, hke⟩
    refine ⟨.bool (decide (k ∈ ks)), ?_, .d _ _ (.v _)⟩
    have hl : (Instr.lookup t (.map (some (V.ρ l))) (bytesV k) false).run P w = .ok (.bool (decide (k ∈ ks))) w := by
      have hgo : (getObj (V.ρ l)).run P w = .ok (.map es cl) w := by simp [getObj, Sem.run, hh]
      unfold Instr.lookup
      simp only [Sem.run_bind, run_underlying hu, Result.andThen, hgo, Sem.run_pure, run_checkKey_bytes hba (hk hc), run_findKey_bytes hba, q1]
      cases r with
      | none =>
        have : ¬ k ∈ ks := fun hm => by
          obtain ⟨e, he1, he2⟩ := h2 k hm
          exact q2 rfl e he1 he2
        simp [hz, this, Sem.run_bind, Result.andThen]
      | some p =>
        obtain ⟨j, v⟩ := p
        obtain ⟨_, e, g2, g3, g4⟩ := q3 j v rfl
        have hem : e ∈ es.toList := List.mem_of_getElem? g2
        obtain ⟨hv, q, hq, hke⟩ := h1 e hem
        have : k ∈ ks := by rw [← bytesV_inj.1 (hke.symm.trans g3)]; exact hq
        rw [hv] at g4
        subst g4
        simp [this, Sem.run_bind, Result.andThen]
    simp only [execOp, he, hy, Sem.run_bind, hl, Result.andThen]
    rfl
/-- map[K]bool{} -/
theorem Trace.makeMap {S' : St} {r : List Oper} {L : List Ax} {d : Nat} (l : Nat) (ds : List Nat)
    (hf : freshB ⟨opNames ⟨some d, .makeMap t none, ty, pos, af, none⟩, S, postOf ds l (.keys []) d (.mp l), [l]⟩ S = true) (h : Trace P ro ops r (S.after ds l (.keys []) d (.mp l)) L S') :
    Trace P ro ops (⟨some d, .makeMap t none, ty, pos, af, none⟩ :: r) S (⟨opNames ⟨some d, .makeMap t none, ty, pos, af, none⟩ ++ ([] : List Nat).map bk, S, postOf ds l (.keys []) d (.mp l), [l]⟩ :: L) S' := by
  refine Trace.new ds (axOp_new rfl rfl (fun _ h => nomatch h) fun E V M a w h => ?_) (by simpa using hf) h
  generalize a.eval = ρ at *
  refine ⟨w.alloc (.map #[] 0), .map (some w.heap.size), some 0, by simp [execOp, Instr.makeMap], WStep.alloc w _, ⟨by simp, #[], 0, by rw [Vals.set_ρ]; exact heap_alloc w _, by simp, by simp⟩, ?_⟩
  have := Den.mp (V := V.set l w.heap.size (some 0)) (M := M) l
  rwa [Vals.set_ρ] at this
theorem sameBits_bytes (k : List Int) : Instr.sameBits 10000 (bytesV k) (bytesV k) = true := by
  show Instr.sameBits (9999 + 1) (bytesV k) (bytesV k) = true
  unfold bytesV
  simp only [Instr.sameBits, beq_self_eq_true, Bool.true_and, List.all_eq_true]
  intro p hp
  obtain ⟨u, v⟩ := p
  have : u = v ∧ ∃ x : Int, u = .int .u8 x := by
    have : ∀ l : List Int, (u, v) ∈ (l.map fun x => Value.int .u8 x).zip (l.map fun x => Value.int .u8 x) → u = v ∧ ∃ x : Int, u = .int .u8 x := fun l => by
      induction l with
      | nil => simp
      | cons a r ih =>
        simp only [List.map_cons, List.zip_cons_cons, List.mem_cons, Prod.mk.injEq]
        rintro (⟨rfl, rfl⟩ | h)
        · exact ⟨rfl, a, rfl⟩
        · exact ih h
    exact this k (by simpa using hp)
  obtain ⟨rfl, x, rfl⟩ := this
  simp [Instr.sameBits]
theorem WStep.setObj (w : World) (b : Nat) (o : Obj) (h : b < w.heap.size) : WStep w { w with heap := w.heap.setIfInBounds b o } b :=
  ⟨rfl, rfl, rfl, by simp, fun c hc _ => by simp [Array.getElem?_setIfInBounds, Ne.symm hc], by simpa using h⟩
/-- m[k] = true -/
theorem Trace.putKey {S' : St} {r : List Oper} {L : List Ax} {z : Operand} {len l : Nat} {ks : List (List Int)} {k : List Int} (ht : mapOK P t len = true) (e1 : Ev S true x (.mp l)) (e2 : Ev S true y (.d (byD k))) (e3 : Ev S true z (bv true)) (hb : S.get (bk l) = some (.blk (.keys ks))) (hk : k.length = len) (hks : ∀ q ∈ ks, q.length = len)
    (h : Trace P ro ops r ((bk l, .blk (.keys (ks ++ [k]))) :: S) L S') :
    Trace P ro ops (⟨none, .mapUpdate t x y z, ty, pos, af, none⟩ :: r) S (⟨opNames ⟨none, .mapUpdate t x y z, ty, pos, af, none⟩ ++ [l].map bk, S, [(bk l, some (.blk (.keys (ks ++ [k]))))], []⟩ :: L) S' := by
  refine Trace.wr0 (axOp_wr0 rfl rfl (fun _ h => nomatch h) (by simp) hb fun E V M a w hg => ?_) h
  have hx := hg.opd x (by simp [Op.operands]) _ e1
  have hy := hg.by (by simp [Op.operands]) e2
  have hz := hg.val (by simp [Op.operands]) e3
  obtain ⟨hκ, es, cl, hh, h1, h2⟩ := hg.blk l (by simp) _ hb
  obtain ⟨kt, et, hu, hba, _⟩ := mapOK_of ht
  generalize he : a.eval x = v at hx
  generalize a.eval = ρ at *
  cases hx with
  | mp =>
    have hgo : (getObj (V.ρ l)).run P w = .ok (.map es cl) w := by simp [getObj, Sem.run, hh]
    have hlt : V.ρ l < w.heap.size := (Array.getElem?_eq_some_iff.1 hh).1
    have hso : ∀ o, (setObj (V.ρ l) o).run P w = .ok () { w with heap := w.heap.setIfInBounds (V.ρ l) o } := fun o => by simp [setObj, Sem.run, hh]
    obtain ⟨r, q1, q2, q3⟩ := run_findAsking_bytes hba hk w es.toList 0 fun e hm => let ⟨_, q, hq, hke⟩ := h1 e hm; ⟨q, hks q hq, hke⟩
    have hat : ∀ o, ({ w with heap := w.heap.setIfInBounds (V.ρ l) o } : World).heap[V.ρ l]? = some o := fun o => by simp [Array.getElem?_setIfInBounds, hlt]
    cases r with
    | none =>
      refine ⟨hκ, { w with heap := w.heap.setIfInBounds (V.ρ l) (.map (es.push { key := bytesV k, val := .bool true, born := cl }) (cl + 1)) }, ?_, WStep.setObj w _ _, hκ, _, _, hat _, fun e hm => ?_, fun q hq => ?_⟩
      · have hr : (Instr.mapUpdate t (.map (some (V.ρ l))) (bytesV k) (.bool true)).run P w = .ok () { w with heap := w.heap.setIfInBounds (V.ρ l) (.map (es.push { key := bytesV k, val := .bool true, born := cl }) (cl + 1)) } := by
          unfold Instr.mapUpdate
          simp only [Sem.run_bind, run_underlying hu, Result.andThen, hgo, run_checkKey_bytes hba hk, run_findKey_bytes hba, q1, hso]
        simp only [execOp, he, hy, hz, Sem.run_bind, hr, Result.andThen]
        rfl
      · simp only [Array.toList_push, List.mem_append, List.mem_singleton] at hm
        rcases hm with hm | rfl
        · obtain ⟨g1, q, g2, g3⟩ := h1 e hm
          exact ⟨g1, q, by simp [g2], g3⟩
        · exact ⟨rfl, k, by simp, rfl⟩
      · simp only [List.mem_append, List.mem_singleton] at hq
        rcases hq with hq | rfl
        · obtain ⟨e, g1, g2⟩ := h2 q hq
          exact ⟨e, by simp only [Array.toList_push, List.mem_append]; exact .inl g1, g2⟩
        · exact ⟨_, by simp only [Array.toList_push, List.mem_append, List.mem_singleton]; exact .inr rfl, rfl⟩
    | some p =>
      obtain ⟨j, v⟩ := p
      obtain ⟨_, e, g2, g3, g4⟩ := q3 j v rfl
      rw [Nat.sub_zero] at g2
      have hkey : ((es[j]?).map (·.key)).getD (bytesV k) = bytesV k := by
        rw [← Array.getElem?_toList, g2]; exact g3
      have hmem : ∀ e', e' ∈ (es.modify j fun e => { e with key := bytesV k, val := .bool true }).toList → e' ∈ es.toList ∨ (e'.key = bytesV k ∧ e'.val = .bool true) := fun e' hm => by
        obtain ⟨i, hi, rfl⟩ := List.getElem_of_mem hm
        simp only [Array.length_toList, Array.size_modify] at hi
        rw [Array.getElem_toList, Array.getElem_modify]
        split
        · exact .inr ⟨rfl, rfl⟩
        · exact .inl (by simp)
      refine ⟨hκ, { w with heap := w.heap.setIfInBounds (V.ρ l) (.map (es.modify j fun e => { e with key := bytesV k, val := .bool true }) cl) }, ?_, WStep.setObj w _ _, hκ, _, _, hat _, fun e' hm => ?_, fun q hq => ?_⟩
      · have hr : (Instr.mapUpdate t (.map (some (V.ρ l))) (bytesV k) (.bool true)).run P w = .ok () { w with heap := w.heap.setIfInBounds (V.ρ l) (.map (es.modify j fun e => { e with key := bytesV k, val := .bool true }) cl) } := by
          unfold Instr.mapUpdate
          simp only [Sem.run_bind, run_underlying hu, Result.andThen, hgo, run_checkKey_bytes hba hk, run_findKey_bytes hba, q1, hkey, Instr.keyThatStays, sameBits_bytes, if_true, Sem.run_pure, hso]
        simp only [execOp, he, hy, hz, Sem.run_bind, hr, Result.andThen]
        rfl
      · rcases hmem e' hm with hm | ⟨g5, g6⟩
        · obtain ⟨g5, q, g6, g7⟩ := h1 e' hm
          exact ⟨g5, q, by simp [g6], g7⟩
        · exact ⟨g6, k, by simp, g5⟩
      · have hjl : j < es.size := by
          have := (List.getElem?_eq_some_iff.1 g2).1
          simpa using this
        have hkk : ∃ e' ∈ (es.modify j fun e => { e with key := bytesV k, val := .bool true }).toList, e'.key = bytesV k :=
          ⟨_, List.getElem_mem (l := (es.modify j fun e => { e with key := bytesV k, val := .bool true }).toList) (n := j) (by simpa using hjl), by rw [Array.getElem_toList, Array.getElem_modify]; simp⟩
        simp only [List.mem_append, List.mem_singleton] at hq
        rcases hq with hq | rfl
        · obtain ⟨e2, g5, g6⟩ := h2 q hq
          obtain ⟨i, hi, rfl⟩ := List.getElem_of_mem g5
          simp only [Array.length_toList] at hi
          by_cases hij : j = i
          · subst hij
            rw [List.getElem?_eq_getElem (by simpa using hi)] at g2
            injection g2 with g2
            rw [g2] at g6
            rw [bytesV_inj.1 (g6.symm.trans g3)]
            exact hkk
          · refine ⟨_, List.getElem_mem (l := (es.modify j fun e => { e with key := bytesV k, val := .bool true }).toList) (n := i) (by simpa using hi), ?_⟩
            rw [Array.getElem_toList, Array.getElem_modify, if_neg hij]
            simpa using g6
        · exact hkk
end

end Go.Proofs.YtmdfamnnnoieaaaDoor

/- pool.Collect. -/
namespace Go.Proofs.YtmdfamnnnoieaaaDoor
open Go
set_option linter.unusedVariables false
set_option linter.unusedSimpArgs false
set_option maxRecDepth 10000
set_option maxHeartbeats 2000000

theorem mo73 : mapOK Tryd.prog 73 32 = true := by kernel_rfl
def keptIn (ks : List (List Int)) (ts : List Tk) : List Tk := ts.filter fun t => decide (t.d ∈ ks)
def collectE (ts : List Tk) (ks : List (List Int)) : List Tk × Int := if chk ts then (keptIn ks ts, 0) else ([], 250)
/-- A slice of digests. -/
def digRow (ks : List (List Int)) (i : Nat) : List D := (ks.getD i []).map fun x => D.v (.int .u8 x)
abbrev digsD (ks : List (List Int)) : D := .rows 32 ks.length (digRow ks)
theorem kept_succ {ks : List (List Int)} {ts : List Tk} {i : Nat} (h : i < ts.length) : keptIn ks (ts.take (i + 1)) = keptIn ks (ts.take i) ++ (if (ts.getD i default).d ∈ ks then [ts.getD i default] else []) := by
  unfold keptIn
  rw [take_succ' _ _ h, List.filter_append, List.getD_eq_getElem?_getD, List.getElem?_eq_getElem h]
  congr 1
  simp only [Option.getD_some, List.filter_cons, List.filter_nil, decide_eq_true_eq]
theorem kept_le {ks : List (List Int)} {ts : List Tk} {i : Nat} : (keptIn ks (ts.take i)).length ≤ ts.length := by
  unfold keptIn
  refine Nat.le_trans (List.length_filter_le _ _) ?_
  simp
  omega
theorem dig_load {ks : List (List Int)} {i : Nat} (h : ∀ k ∈ ks, k.length = 32) (hi : i < ks.length) : (digRow ks i).length = 32 ∧ (digRow ks i).take 32 = (ks.getD i []).map fun x => D.v (.int .u8 x) := by
  have hm : ks.getD i [] ∈ ks := by rw [List.getD_eq_getElem?_getD, List.getElem?_eq_getElem hi]; exact List.getElem_mem hi
  have hl := h _ hm
  have h2 : (digRow ks i).length = 32 := by simp only [digRow, List.length_map]; exact hl
  exact ⟨h2, by rw [List.take_of_length_le (by omega)]; rfl⟩
/-- soundpost/pool.Collect -/
theorem spec23 (ts : List Tk) (ks : List (List Int)) (hts : ∀ t ∈ ts, t.Ok) (hn1 : ts.length ≤ 1000) (hks : ∀ k ∈ ks, k.length = 32) (hk1 : ks.length ≤ 1000) : FnSpec Tryd.prog 23 [.d (poolD ts), .d (digsD ks)] [] (.tup ([poolD (collectE ts ks).1, .v (.int .i64 (collectE ts ks).2)].map .d)) [] [] := by
  refine fnSpec_of (rs := [.cell 4 24, .tmp 5]) Tryd.func23 rfl rfl (Nat.le_of_ble_eq_true rfl) (by simp [St.get]) fun E hk hn => ?_
  apply WPA.seq
  apply WPA.region
  · apply Trace.boxD 10 [] (.plain rfl) rfl rfl
    apply Trace.alloc 4 [] (.data _) zo24 (cellsAs_data _) rfl
    apply Trace.pu [] (.assign (.plain rfl))
    exact .nil _
  · exact keepOK_of hk hn rfl
  apply WPA.seq
  apply WPA.seq
  apply WPA.region
  · apply Trace.pu [_] (.loadAllD ty24 (.plain rfl) rfl rfl)
    apply Trace.cu (callArgs0 (.cons (.plain rfl) .nil)) (spec19 ts hts hn1) en19
    apply Trace.pu [] (.assign (.plain rfl))
    exact .nil _
  · exact keepOK_of hk hn rfl
  apply WPA.seq
  apply WPA.region
  · apply Trace.pu [] (.move (.plain rfl))
    apply Trace.pu [] (.cmp (.plain rfl) (.plain rfl) rfl)
    exact .nil _
  · exact keepOK_of hk hn rfl
  refine WPA.cond rfl (fun hc1 => ?_) (fun hc1 => ?_)
  · have hE : chk ts = false := by
      cases h : chk ts with
      | false => rfl
      | true => simp [ckE, h] at hc1
    apply WPA.seq
    apply WPA.region
    · apply Trace.pu [_] (.loadAllD ty24 (.plain rfl) rfl rfl)
      apply Trace.pu [] (.move (.plain rfl))
      apply Trace.storeD ty24 (.plain rfl) (.plain rfl) rfl rfl rfl (by simp [AV.oneB, single]) (by decide) rfl
      apply Trace.pu [] (.assign (.plain rfl))
      exact .nil _
    · exact keepOK_of hk hn rfl
    refine WPA.ghost (Ghost.dataLe (l := 4) (ds' := [tksD []]) rfl (.rows .nil)) ?_
    apply WPA.ret
    refine ⟨.inr rfl, ⟨_, (.cons (.cellD rfl rfl ty24 rfl) (.cons (.tmp rfl) .nil)), ?_⟩, by simp [St.get]⟩
    simp only [collectE, hE, ckE, Bool.false_eq_true, if_false]
    rfl
  · have hC : chk ts = true := by
      cases h : chk ts with
      | true => rfl
      | false => simp [ckE, h] at hc1
    apply WPA.skip
    apply WPA.seq
    apply WPA.region
    · apply Trace.makeMap 8 [] rfl
      apply Trace.pu [] (.assign (.plain rfl))
      exact .nil _
    · exact keepOK_of hk hn rfl
    apply WPA.seq
    apply WPA.seq
    apply WPA.region
    · apply Trace.pu [] (.move (.plain rfl))
      apply Trace.pu [] (.len rfl Tryd.underlying41 (.plain rfl) rfl)
      apply Trace.pu [] (.move (.plain rfl))
      exact .nil _
    · exact keepOK_of hk hn rfl
    apply WPA.block
    refine WPA.loop (σ := Nat) (fun i => [(sl 2, .av (.loc 10 0)), (sl 4, .av (.loc 4 0)), (sl 6, .av (.mp 8)), (sl 18, .av (.d (digsD ks))), (sl 19, .av (iv .i64 (ks.length))), (sl 20, .av (iv .i64 (i))), (bk 10, .blk (.data [tksD ts])), (bk 4, .blk (.data [.v (.slice none 0 0)])), (bk 8, .blk (.keys (ks.take i)))]) (fun i => i ≤ ks.length) (fun i => ks.length - i) 0
      (St.le_cons rfl (St.le_cons rfl (St.le_cons rfl (St.le_cons rfl (St.le_cons rfl (St.le_cons rfl (St.le_cons rfl (St.le_cons rfl (St.le_cons rfl (St.le_nil _)))))))))) (Nat.zero_le _) fun i hi => ?_
    apply WPA.seq
    apply WPA.region
    · apply Trace.pu [] (.cmp (.plain rfl) (.plain rfl) rfl)
      exact .nil _
    · exact keepOK_of hk hn rfl
    apply WPA.seq
    refine WPA.cond rfl (fun hc2 => ?_) (fun hc2 => ?_)
    · have hlt : i < ks.length := by simp at hc2; omega
      obtain ⟨q1, q2⟩ := dig_load hks hlt
      obtain ⟨k, hke⟩ : ∃ k, ks.getD i [] = k := ⟨_, rfl⟩
      have hkm : k ∈ ks := by rw [← hke, List.getD_eq_getElem?_getD, List.getElem?_eq_getElem hlt]; exact List.getElem_mem hlt
      have hkl := hks k hkm
      have htk : ks.take (i + 1) = ks.take i ++ [k] := by
        rw [take_succ' _ _ hlt]
        congr 2
        rw [← hke, List.getD_eq_getElem?_getD, List.getElem?_eq_getElem hlt]; rfl
      apply WPA.skip
      apply WPA.seq
      apply WPA.block
      apply WPA.seq
      apply WPA.region
      · first | apply Trace.pu [] (.indexRows el41 (.plain rfl) (.plain rfl) (fun _ => ⟨by omega, by omega⟩)) | apply Trace.pu [] (.indexOwn el41 (.plain rfl) (.plain rfl) (fun _ => ⟨by omega, by omega⟩)) | apply Trace.pu [] (.indexSl el41 (.plain rfl) (.plain rfl) (fun _ => ⟨by omega, by omega⟩)) | apply Trace.pu [] (.indexSa el41 (.plain rfl) (.plain rfl) (fun _ => ⟨by omega, by omega⟩))
        apply Trace.pu [] ((Pure.loadRp ty27 (.plain rfl) (fun _ => by rw [Int.toNat_natCast, q1]; exact Nat.le_refl _)).to (y := .d (byD k)) (by rw [Int.toNat_natCast, q2, hke]))
        apply Trace.alloc 9 [] (.data _) zo27 (cellsAs_data _) rfl
        apply Trace.storeD (cs' := k.map fun x => .v (.int .u8 x)) ty27 (.plain rfl) (.plain rfl) rfl rfl (by simp [hkl]) (by_one _) (by decide) (spliceL_all (by simp only [List.length_map, hkl]; rfl))
        exact .nil _
      · exact keepOK_of hk hn rfl
      apply WPA.region
      · apply Trace.pu [] (.move (.plain rfl))
        apply Trace.pu [_] (.loadAllD ty27 (.plain rfl) rfl (by simp [hkl]))
        apply Trace.putKey mo73 (.plain rfl) (.plain rfl) (.plain rfl) rfl hkl (fun q hq => hks q (List.mem_of_mem_take hq))
        exact .nil _
      · exact keepOK_of hk hn rfl
      apply WPA.region
      · apply Trace.pu [] (.arith (.plain rfl) (.plain rfl) rfl (fun _ => bd64 (by omega)))
        apply Trace.pu [] (.move (.plain rfl))
        exact .nil _
      · exact keepOK_of hk hn rfl
      exact ⟨i + 1, by omega, by omega, St.le_cons rfl (St.le_cons rfl (St.le_cons rfl (St.le_cons rfl (St.le_cons rfl (St.le_cons (iv_eq (by omega)) (St.le_cons rfl (St.le_cons rfl (St.le_cons (blk_eq (by rw [htk])) (St.le_nil _)))))))))⟩
    · have hend : i = ks.length := by simp at hc2; omega
      subst hend
      rw [List.take_length]
      apply WPA.exit
      apply WPA.seq
      apply WPA.seq
      refine WPA.ghost (Ghost.dataCells (l := 4) (cs := [nilS]) rfl rfl) ?_
      refine WPA.ghost (Ghost.cellNil (lb := 4) (j := 0) (l := 16) (cols := tkCols []) (n := 33) rfl rfl rfl rfl (by rw [hk]; decide) (tkCols_length _) (tkCols_len []) rfl) ?_
      apply WPA.region
      · apply Trace.pu [] (.fieldAddr fl24_0 (.plain rfl) rfl)
        first | apply Trace.pu [_] (.loadLoc1D ty22 (.plain rfl) rfl rfl) | apply Trace.pu [_] (.loadLoc1 ty22 (.plain rfl) rfl rfl) | apply Trace.pu [] (.loadRp1 ty22 (.plain rfl) rfl) | apply Trace.pu [_] (.loadCol1 ty22 (.plain rfl) rfl rfl rfl (fun _ => by omega))
        apply Trace.pu [] (.len rfl Tryd.underlying22 (.plain rfl) rfl)
        apply Trace.pu [] (.move (.plain rfl))
        exact .nil _
      · exact keepOK_of hk hn rfl
      apply WPA.block
      refine WPA.loop (σ := Nat) (fun i => [(sl 4, .av (.loc 4 0)), (sl 6, .av (.mp 8)), (sl 28, .av (.d (tksD ts))), (sl 29, .av (iv .i64 (ts.length))), (sl 30, .av (iv .i64 (i))), (bk 8, .blk (.keys ks)), (bk 4, .blk (.cells [.own 16 ((keptIn ks (ts.take i))).length])), (bk 16, .blk (.app 33 ((keptIn ks (ts.take i))).length (tkCols ((keptIn ks (ts.take i))))))]) (fun i => i ≤ ts.length) (fun i => ts.length - i) 0
        (St.le_cons rfl (St.le_cons rfl (St.le_cons rfl (St.le_cons rfl (St.le_cons rfl (St.le_cons rfl (St.le_cons rfl (St.le_cons rfl (St.le_nil _))))))))) (Nat.zero_le _) fun i hi => ?_
      apply WPA.seq
      apply WPA.region
      · apply Trace.pu [] (.cmp (.plain rfl) (.plain rfl) rfl)
        exact .nil _
      · exact keepOK_of hk hn rfl
      apply WPA.seq
      refine WPA.cond rfl (fun hc3 => ?_) (fun hc3 => ?_)
      · have hlt : i < ts.length := by simp at hc3; omega
        obtain ⟨t, hte⟩ : ∃ t, ts.getD i default = t := ⟨_, rfl⟩
        have hto : t.Ok := by rw [← hte]; exact hts _ (getD_mem' hlt)
        have hkp := kept_succ (ks := ks) hlt
        rw [hte] at hkp
        have hkle := kept_le (ks := ks) (ts := ts) (i := i)
        apply WPA.skip
        apply WPA.seq
        apply WPA.block
        apply WPA.seq
        apply WPA.region
        · first | apply Trace.pu [] (.indexRows el22 (.plain rfl) (.plain rfl) (fun _ => ⟨by omega, by omega⟩)) | apply Trace.pu [] (.indexOwn el22 (.plain rfl) (.plain rfl) (fun _ => ⟨by omega, by omega⟩)) | apply Trace.pu [] (.indexSl el22 (.plain rfl) (.plain rfl) (fun _ => ⟨by omega, by omega⟩)) | apply Trace.pu [] (.indexSa el22 (.plain rfl) (.plain rfl) (fun _ => ⟨by omega, by omega⟩))
          apply Trace.pu [] ((Pure.loadRp ty49 (.plain rfl) (fun _ => by rw [Int.toNat_natCast]; exact tk_len hts hlt)).to (y := .d (.agg t.cells)) (by rw [Int.toNat_natCast, tk_take hts, hte]))
          apply Trace.alloc 7 [] (.data _) zo49 (cellsAs_data _) rfl
          apply Trace.storeD (cs' := t.cells) ty49 (.plain rfl) (.plain rfl) rfl rfl (Tk.cells_length hto.len) (cells_one t) (by decide) (spliceL_all (by rw [Tk.cells_length hto.len]; rfl))
          exact .nil _
        · exact keepOK_of hk hn rfl
        apply WPA.seq
        apply WPA.region
        · apply Trace.pu [] (.move (.plain rfl))
          apply Trace.pu [] (.fieldAddr fl49_0 (.plain rfl) rfl)
          apply Trace.pu [_] ((Pure.loadLocD ty27 (.plain rfl) rfl (fun _ => by rw [Tk.cells_length hto.len]; decide)).to (y := .d (byD t.d)) (by rw [cells_d hto.len]))
          apply Trace.pu [_] (.lookupB mo73 (.plain rfl) (.plain rfl) rfl (fun _ => hto.len) (fun _ => hks))
          exact .nil _
        · exact keepOK_of hk hn rfl
        refine WPA.cond rfl (fun hc4 => ?_) (fun hc4 => ?_)
        · rw [if_pos (of_decide_eq_true hc4)] at hkp
          apply WPA.region
          · apply Trace.pu [] (.fieldAddr fl24_0 (.plain rfl) rfl)
            first | apply Trace.pu [_] (.loadLoc1D ty22 (.plain rfl) rfl rfl) | apply Trace.pu [_] (.loadLoc1 ty22 (.plain rfl) rfl rfl) | apply Trace.pu [] (.loadRp1 ty22 (.plain rfl) rfl) | apply Trace.pu [_] (.loadCol1 ty22 (.plain rfl) rfl rfl rfl (fun _ => by omega))
            apply Trace.pu [_] (.loadAllD ty49 (.plain rfl) rfl (Tk.cells_length hto.len))
            apply Trace.buildOne so22 zo49 rfl (by decide) (by decide) (.plain rfl) (Tk.cells_length hto.len)
            apply Trace.append 46 [bk 16] ap22 kd22 (by decide) (.own (.plain rfl) rfl) (.rows (cs := tkCols [t]) (.plain rfl) (tkCols_length _) (fun c hc => by rw [tkCols_len _ c hc]; rfl) (rows_one hto)) (tkCols_one _) (labs_ok rfl) (by omega) (by omega) (tkCols_cat _ _) rfl
            apply Trace.pu [] (.fieldAddr fl24_0 (.plain rfl) rfl)
            apply Trace.storeLoc ty22 (.plain rfl) (.plain rfl) rfl rfl rfl (by simp [AV.oneB, single]) (Nat.le_of_ble_eq_true rfl) rfl
            exact .nil _
          · exact keepOK_of hk hn rfl
          first
          | (refine WPA.weaken (T := [(sl 4, .av (.loc 4 0)), (sl 6, .av (.mp 8)), (sl 28, .av (.d (tksD ts))), (sl 29, .av (iv .i64 (ts.length))), (sl 30, .av (iv .i64 (i))), (bk 8, .blk (.keys ks)), (bk 4, .blk (.cells [.own 46 ((keptIn ks (ts.take i)).length + 1)])), (bk 46, .blk (.app 33 ((keptIn ks (ts.take i)).length + 1) (tkCols ((keptIn ks (ts.take i)) ++ [t]))))]) ?_ (St.le_cons rfl (St.le_cons rfl (St.le_cons rfl (St.le_cons rfl (St.le_cons rfl (St.le_cons rfl (St.le_cons rfl (St.le_cons rfl (St.le_nil _))))))))); refine WPA.ghost (Ghost.swap 46 16 (by rw [hk]; decide) (by rw [hk]; decide) rfl) ?_)
          | skip
          apply WPA.region
          · apply Trace.pu [] (.arith (.plain rfl) (.plain rfl) rfl (fun _ => bd64 (by omega)))
            apply Trace.pu [] (.move (.plain rfl))
            exact .nil _
          · exact keepOK_of hk hn rfl
          exact ⟨i + 1, by omega, by omega, St.le_cons rfl (St.le_cons rfl (St.le_cons rfl (St.le_cons rfl (St.le_cons (iv_eq (by omega)) (St.le_cons rfl (St.le_cons (by rw [hkp]; first | rfl | (rw [List.length_append]; rfl)) (St.le_cons (by rw [hkp]; first | rfl | (rw [List.length_append]; rfl)) (St.le_nil _))))))))⟩
        · rw [if_neg (of_decide_eq_false hc4), List.append_nil] at hkp
          apply WPA.skip
          first
          | (refine WPA.weaken (T := [(sl 4, .av (.loc 4 0)), (sl 6, .av (.mp 8)), (sl 28, .av (.d (tksD ts))), (sl 29, .av (iv .i64 (ts.length))), (sl 30, .av (iv .i64 (i))), (bk 8, .blk (.keys ks)), (bk 4, .blk (.cells [.own 46 ((keptIn ks (ts.take i)).length + 1)])), (bk 46, .blk (.app 33 ((keptIn ks (ts.take i)).length + 1) (tkCols ((keptIn ks (ts.take i)) ++ [t]))))]) ?_ (St.le_cons rfl (St.le_cons rfl (St.le_cons rfl (St.le_cons rfl (St.le_cons rfl (St.le_cons rfl (St.le_cons rfl (St.le_cons rfl (St.le_nil _))))))))); refine WPA.ghost (Ghost.swap 46 16 (by rw [hk]; decide) (by rw [hk]; decide) rfl) ?_)
          | skip
          apply WPA.region
          · apply Trace.pu [] (.arith (.plain rfl) (.plain rfl) rfl (fun _ => bd64 (by omega)))
            apply Trace.pu [] (.move (.plain rfl))
            exact .nil _
          · exact keepOK_of hk hn rfl
          exact ⟨i + 1, by omega, by omega, St.le_cons rfl (St.le_cons rfl (St.le_cons rfl (St.le_cons rfl (St.le_cons (iv_eq (by omega)) (St.le_cons rfl (St.le_cons (by rw [hkp]; first | rfl | (rw [List.length_append]; rfl)) (St.le_cons (by rw [hkp]; first | rfl | (rw [List.length_append]; rfl)) (St.le_nil _))))))))⟩
      · have hend : i = ts.length := by simp at hc3; omega
        subst hend
        rw [List.take_length]
        have hmo : ∀ t ∈ keptIn ks ts, t.Ok := fun t ht => hts t (List.mem_filter.1 ht).1
        apply WPA.exit
        apply WPA.seq
        refine WPA.ghost (Ghost.cellFreeze (lb := 4) (j := 0) (l := 16) (g := tkRow (keptIn ks ts)) (cs' := [.d (tksD (keptIn ks ts))]) rfl rfl rfl rfl (fun i hi => tkCols_row hmo hi) rfl) ?_
        refine WPA.ghost ((Ghost.reblk (l := 4) (B := .cells [.d (tksD (keptIn ks ts))]) (B' := .data [tksD (keptIn ks ts)]) rfl fun V M w h => h).trans (Ghost.weaken fun m c e => by rwa [← cons_upd])) ?_
        apply WPA.region
        · apply Trace.pu [_] (.loadAllD ty24 (.plain rfl) rfl rfl)
          apply Trace.storeD ty24 (.plain rfl) (.plain rfl) rfl rfl rfl (by simp [AV.oneB, single]) (Nat.le_of_ble_eq_true rfl) rfl
          apply Trace.pu [] (.assign (.plain rfl))
          exact .nil _
        · exact keepOK_of hk hn rfl
        apply WPA.ret
        refine ⟨.inr rfl, ⟨_, (.cons (.cellD rfl rfl ty24 rfl) (.cons (.tmp rfl) .nil)), ?_⟩, by simp [St.get]⟩
        simp only [collectE, hC, if_true]
        rfl

end Go.Proofs.YtmdfamnnnoieaaaDoor


/- soundpostref25: Ints, Same, Few; the law's has. -/
namespace Go.Proofs.YtmdfamnnnoieaaaDoor
open Go
set_option linter.unusedVariables false
set_option linter.unusedSimpArgs false
set_option maxRecDepth 10000
set_option maxHeartbeats 2000000

theorem ints_ne {xs ys : List Int} {i : Nat} (hl : xs.length = ys.length) (hi : i < xs.length) (h : ¬ xs.getD i 0 = ys.getD i 0) : ¬ xs = ys := fun e => h (by rw [e])
theorem ints_eq {xs ys : List Int} (hl : xs.length = ys.length) (h : ∀ i, i < xs.length → xs.getD i 0 = ys.getD i 0) : xs = ys := by
  refine List.ext_getElem hl fun i h1 h2 => ?_
  have := h i h1
  simpa [h1, h2] using this
theorem tks_eq {a b : List Tk} (hl : a.length = b.length) (h : ∀ i, i < a.length → a.getD i default = b.getD i default) : a = b := by
  refine List.ext_getElem hl fun i h1 h2 => ?_
  have := h i h1
  rw [List.getD_eq_getElem?_getD, List.getD_eq_getElem?_getD, List.getElem?_eq_getElem h1, List.getElem?_eq_getElem h2] at this
  exact this
def intRow (L : List (List Int)) (i : Nat) : List D := [intsD (L.getD i [])]
abbrev listsD (L : List (List Int)) : D := .rows 1 L.length (intRow L)
/-- What a take of an argument is. -/
structure Tk.Ok0 (t : Tk) : Prop where
  len : t.d.length = 32
  byt : Byt t.d
  big : ∀ x ∈ t.xs, -9223372036854775808 ≤ x ∧ x ≤ 9223372036854775807
  few : t.xs.length ≤ 140737488355328
theorem row_x0 {ts : List Tk} (h : ∀ t ∈ ts, t.Ok0) {i : Nat} (hi : i < ts.length) : ((tkRow ts i).drop 32)[0]? = some (intsD (ts.getD i default).xs) := by
  rw [List.getElem?_drop]
  exact cells_x (h _ (getD_mem' hi)).len
def fewB (ts : List Tk) : Bool := decide (ts.length ≤ 8) && ts.all fun t => decide (t.xs.length ≤ 200)
theorem fewB_ok {ts : List Tk} (h0 : ∀ t ∈ ts, t.Ok0) (h : fewB ts = true) : ts.length ≤ 8 ∧ ∀ t ∈ ts, t.Ok ∧ t.xs.length ≤ 200 := by
  simp only [fewB, Bool.and_eq_true, decide_eq_true_eq, List.all_eq_true] at h
  exact ⟨h.1, fun t ht => ⟨⟨(h0 t ht).len, (h0 t ht).byt, (h0 t ht).big, by have := h.2 t ht; omega⟩, h.2 t ht⟩⟩
/-- soundpost/soundpostref25.Ints -/
theorem spec18 (xs ys : List Int) (hx : xs.length ≤ 140737488355328) (hy : ys.length ≤ 140737488355328) : FnSpec Tryd.prog 18 [.d (intsD xs), .d (intsD ys)] [] (bv (decide (xs = ys))) [] [] := by
  refine fnSpec_of (rs := [.tmp 4]) Tryd.func18 rfl rfl (Nat.le_of_ble_eq_true rfl) (by simp [St.get]) fun E hk hn => ?_
  apply WPA.seq
  apply WPA.region
  · apply Trace.pu [] (.assign (.plain rfl))
    exact .nil _
  · exact keepOK_of hk hn rfl
  apply WPA.seq
  apply WPA.seq
  apply WPA.region
  · apply Trace.pu [] (.move (.plain rfl))
    apply Trace.pu [] (.len rfl Tryd.underlying25 (.plain rfl) rfl)
    apply Trace.pu [] (.move (.plain rfl))
    apply Trace.pu [] (.len rfl Tryd.underlying25 (.plain rfl) rfl)
    apply Trace.pu [] (.cmp (.plain rfl) (.plain rfl) rfl)
    exact .nil _
  · exact keepOK_of hk hn rfl
  refine WPA.cond rfl (fun hc1 => ?_) (fun hc1 => ?_)
  · have hne : ¬ xs = ys := fun e => by subst e; simp at hc1
    apply WPA.seq
    apply WPA.region
    · apply Trace.pu [] (.assign (.plain rfl))
      exact .nil _
    · exact keepOK_of hk hn rfl
    apply WPA.ret
    refine ⟨.inr rfl, ⟨_, (.cons (.tmp rfl) .nil), ?_⟩, by simp [St.get]⟩
    simp [resOf, D.ofV, hne]
  · have hl : xs.length = ys.length := by simp at hc1; omega
    apply WPA.skip
    apply WPA.seq
    apply WPA.seq
    apply WPA.region
    · apply Trace.pu [] (.assign (.plain rfl))
      exact .nil _
    · exact keepOK_of hk hn rfl
    apply WPA.block
    refine WPA.loop (σ := Nat) (fun i => [(sl 0, .av (.d (intsD xs))), (sl 1, .av (.d (intsD ys))), (sl 5, .av (iv .i64 (i)))]) (fun i => i ≤ xs.length ∧ ∀ j, j < i → xs.getD j 0 = ys.getD j 0) (fun i => xs.length - i) 0
      (St.le_cons rfl (St.le_cons rfl (St.le_cons rfl (St.le_nil _)))) ⟨Nat.zero_le _, fun j hj => absurd hj (by omega)⟩ fun i hi => ?_
    apply WPA.seq
    apply WPA.seq
    apply WPA.region
    · apply Trace.pu [] (.move (.plain rfl))
      apply Trace.pu [] (.move (.plain rfl))
      apply Trace.pu [] (.len rfl Tryd.underlying25 (.plain rfl) rfl)
      apply Trace.pu [] (.cmp (.plain rfl) (.plain rfl) rfl)
      exact .nil _
    · exact keepOK_of hk hn rfl
    refine WPA.cond rfl (fun hc2 => ?_) (fun hc2 => ?_)
    · have hlt : i < xs.length := by simp at hc2; omega
      apply WPA.skip
      apply WPA.seq
      apply WPA.block
      apply WPA.seq
      apply WPA.draw mixed
      · apply Trace.pu [] (.move (.plain rfl))
        apply Trace.pu [] (.move (.plain rfl))
        first | apply Trace.pu [] (.indexRows el25 (.plain rfl) (.plain rfl) (fun _ => ⟨by omega, by omega⟩)) | apply Trace.pu [] (.indexOwn el25 (.plain rfl) (.plain rfl) (fun _ => ⟨by omega, by omega⟩)) | apply Trace.pu [] (.indexSl el25 (.plain rfl) (.plain rfl) (fun _ => ⟨by omega, by omega⟩)) | apply Trace.pu [] (.indexSa el25 (.plain rfl) (.plain rfl) (fun _ => ⟨by omega, by omega⟩))
        apply Trace.pu [] (.loadRp1 ty3 (.plain rfl) (r := .v (.int .i64 (xs.getD i 0))) (by show [D.v (.int .i64 (xs.getD ((i : Int)).toNat 0))][0]? = _; rw [Int.toNat_natCast]; rfl))
        apply Trace.pu [] (.move (.plain rfl))
        apply Trace.pu [] (.move (.plain rfl))
        first | apply Trace.pu [] (.indexRows el25 (.plain rfl) (.plain rfl) (fun _ => ⟨by omega, by omega⟩)) | apply Trace.pu [] (.indexOwn el25 (.plain rfl) (.plain rfl) (fun _ => ⟨by omega, by omega⟩)) | apply Trace.pu [] (.indexSl el25 (.plain rfl) (.plain rfl) (fun _ => ⟨by omega, by omega⟩)) | apply Trace.pu [] (.indexSa el25 (.plain rfl) (.plain rfl) (fun _ => ⟨by omega, by omega⟩))
        apply Trace.pu [] (.loadRp1 ty3 (.plain rfl) (r := .v (.int .i64 (ys.getD i 0))) (by show [D.v (.int .i64 (ys.getD ((i : Int)).toNat 0))][0]? = _; rw [Int.toNat_natCast]; rfl))
        apply Trace.pu [] (.cmp (.plain rfl) (.plain rfl) rfl)
        exact .nil _
      · rfl
      · exact keepOK_of hk hn rfl
      refine WPA.cond rfl (fun hc3 => ?_) (fun hc3 => ?_)
      · have hne := ints_ne hl hlt (by simpa using hc3)
        apply WPA.seq
        apply WPA.region
        · apply Trace.pu [] (.assign (.plain rfl))
          exact .nil _
        · exact keepOK_of hk hn rfl
        apply WPA.ret
        refine ⟨.inr rfl, ⟨_, (.cons (.tmp rfl) .nil), ?_⟩, by simp [St.get]⟩
        simp [resOf, D.ofV, hne]
      · have he : xs.getD i 0 = ys.getD i 0 := by simpa using hc3
        apply WPA.skip
        apply WPA.region
        · apply Trace.pu [] (.move (.plain rfl))
          apply Trace.pu [] (.arith (.plain rfl) (.plain rfl) rfl (fun _ => bd64 (by omega)))
          apply Trace.pu [] (.assign (.plain rfl))
          exact .nil _
        · exact keepOK_of hk hn rfl
        exact ⟨i + 1, ⟨by omega, fun j hj => by
          by_cases h : j = i
          · rw [h]; exact he
          · exact hi.2 j (by omega)⟩, by omega, St.le_cons rfl (St.le_cons rfl (St.le_cons (iv_eq (by omega)) (St.le_nil _)))⟩
    · have heq : xs = ys := ints_eq hl fun j hj => hi.2 j (by simp at hc2; omega)
      apply WPA.exit
      apply WPA.seq
      apply WPA.region
      · apply Trace.pu [] (.assign (.plain rfl))
        exact .nil _
      · exact keepOK_of hk hn rfl
      apply WPA.ret
      refine ⟨.inr rfl, ⟨_, (.cons (.tmp rfl) .nil), ?_⟩, by simp [St.get]⟩
      simp [resOf, D.ofV, heq]
/-- soundpost/soundpostref25.Same -/
theorem spec17 (a b : List Tk) (ha : ∀ t ∈ a, t.Ok) (hb : ∀ t ∈ b, t.Ok) (ha1 : a.length ≤ 1000) (hb1 : b.length ≤ 1000) : FnSpec Tryd.prog 17 [.d (poolD a), .d (poolD b)] [] (bv (decide (a = b))) [] [] := by
  refine fnSpec_of (rs := [.tmp 4]) Tryd.func17 rfl rfl (Nat.le_of_ble_eq_true rfl) (by simp [St.get]) fun E hk hn => ?_
  apply WPA.seq
  apply WPA.region
  · apply Trace.boxD 10 [] (.plain rfl) rfl rfl
    apply Trace.boxD 11 [] (.plain rfl) rfl rfl
    apply Trace.pu [] (.assign (.plain rfl))
    exact .nil _
  · exact keepOK_of hk hn rfl
  apply WPA.seq
  apply WPA.seq
  apply WPA.region
  · apply Trace.pu [] (.fieldAddr fl24_0 (.plain rfl) rfl)
    first | apply Trace.pu [_] (.loadLoc1D ty22 (.plain rfl) rfl rfl) | apply Trace.pu [_] (.loadLoc1 ty22 (.plain rfl) rfl rfl) | apply Trace.pu [] (.loadRp1 ty22 (.plain rfl) rfl) | apply Trace.pu [_] (.loadCol1 ty22 (.plain rfl) rfl rfl rfl (fun _ => by omega))
    apply Trace.pu [] (.len rfl Tryd.underlying22 (.plain rfl) rfl)
    apply Trace.pu [] (.fieldAddr fl24_0 (.plain rfl) rfl)
    first | apply Trace.pu [_] (.loadLoc1D ty22 (.plain rfl) rfl rfl) | apply Trace.pu [_] (.loadLoc1 ty22 (.plain rfl) rfl rfl) | apply Trace.pu [] (.loadRp1 ty22 (.plain rfl) rfl) | apply Trace.pu [_] (.loadCol1 ty22 (.plain rfl) rfl rfl rfl (fun _ => by omega))
    apply Trace.pu [] (.len rfl Tryd.underlying22 (.plain rfl) rfl)
    apply Trace.pu [] (.cmp (.plain rfl) (.plain rfl) rfl)
    exact .nil _
  · exact keepOK_of hk hn rfl
  refine WPA.cond rfl (fun hc1 => ?_) (fun hc1 => ?_)
  · have hne : ¬ a = b := fun e => by subst e; simp at hc1
    apply WPA.seq
    apply WPA.region
    · apply Trace.pu [] (.assign (.plain rfl))
      exact .nil _
    · exact keepOK_of hk hn rfl
    apply WPA.ret
    refine ⟨.inr rfl, ⟨_, (.cons (.tmp rfl) .nil), ?_⟩, by simp [St.get]⟩
    simp [resOf, D.ofV, hne]
  · have hl : a.length = b.length := by simp at hc1; omega
    apply WPA.skip
    apply WPA.seq
    apply WPA.seq
    apply WPA.region
    · apply Trace.pu [] (.assign (.plain rfl))
      exact .nil _
    · exact keepOK_of hk hn rfl
    apply WPA.block
    refine WPA.loop (σ := Nat) (fun i => [(sl 2, .av (.loc 10 0)), (sl 3, .av (.loc 11 0)), (sl 5, .av (iv .i64 (i))), (bk 10, .blk (.data [tksD a])), (bk 11, .blk (.data [tksD b]))]) (fun i => i ≤ a.length ∧ ∀ j, j < i → a.getD j default = b.getD j default) (fun i => a.length - i) 0
      (St.le_cons rfl (St.le_cons rfl (St.le_cons rfl (St.le_cons rfl (St.le_cons rfl (St.le_nil _)))))) ⟨Nat.zero_le _, fun j hj => absurd hj (by omega)⟩ fun i hi => ?_
    apply WPA.seq
    apply WPA.seq
    apply WPA.region
    · apply Trace.pu [] (.move (.plain rfl))
      apply Trace.pu [] (.fieldAddr fl24_0 (.plain rfl) rfl)
      first | apply Trace.pu [_] (.loadLoc1D ty22 (.plain rfl) rfl rfl) | apply Trace.pu [_] (.loadLoc1 ty22 (.plain rfl) rfl rfl) | apply Trace.pu [] (.loadRp1 ty22 (.plain rfl) rfl) | apply Trace.pu [_] (.loadCol1 ty22 (.plain rfl) rfl rfl rfl (fun _ => by omega))
      apply Trace.pu [] (.len rfl Tryd.underlying22 (.plain rfl) rfl)
      apply Trace.pu [] (.cmp (.plain rfl) (.plain rfl) rfl)
      exact .nil _
    · exact keepOK_of hk hn rfl
    refine WPA.cond rfl (fun hc2 => ?_) (fun hc2 => ?_)
    · have hlt : i < a.length := by simp at hc2; omega
      have hoa := ha _ (getD_mem' hlt)
      have hob := hb _ (getD_mem' (i := i) (ts := b) (by omega))
      apply WPA.skip
      apply WPA.seq
      apply WPA.block
      apply WPA.seq
      apply WPA.draw mixed
      · apply Trace.pu [] (.fieldAddr fl24_0 (.plain rfl) rfl)
        first | apply Trace.pu [_] (.loadLoc1D ty22 (.plain rfl) rfl rfl) | apply Trace.pu [_] (.loadLoc1 ty22 (.plain rfl) rfl rfl) | apply Trace.pu [] (.loadRp1 ty22 (.plain rfl) rfl) | apply Trace.pu [_] (.loadCol1 ty22 (.plain rfl) rfl rfl rfl (fun _ => by omega))
        apply Trace.pu [] (.move (.plain rfl))
        first | apply Trace.pu [] (.indexRows el22 (.plain rfl) (.plain rfl) (fun _ => ⟨by omega, by omega⟩)) | apply Trace.pu [] (.indexOwn el22 (.plain rfl) (.plain rfl) (fun _ => ⟨by omega, by omega⟩)) | apply Trace.pu [] (.indexSl el22 (.plain rfl) (.plain rfl) (fun _ => ⟨by omega, by omega⟩)) | apply Trace.pu [] (.indexSa el22 (.plain rfl) (.plain rfl) (fun _ => ⟨by omega, by omega⟩))
        apply Trace.pu [] (.fieldAddr fl49_0 (.plain rfl) rfl)
        apply Trace.pu [] ((Pure.loadRp ty27 (.plain rfl) (fun _ => by rw [Int.toNat_natCast, List.drop_zero]; have := tk_len (i := i) ha (by omega); exact Nat.le_trans (by decide) this)).to (y := .d (byD (a.getD i default).d)) (by rw [Int.toNat_natCast]; exact row_d ha (by omega)))
        apply Trace.pu [] (.fieldAddr fl24_0 (.plain rfl) rfl)
        first | apply Trace.pu [_] (.loadLoc1D ty22 (.plain rfl) rfl rfl) | apply Trace.pu [_] (.loadLoc1 ty22 (.plain rfl) rfl rfl) | apply Trace.pu [] (.loadRp1 ty22 (.plain rfl) rfl) | apply Trace.pu [_] (.loadCol1 ty22 (.plain rfl) rfl rfl rfl (fun _ => by omega))
        apply Trace.pu [] (.move (.plain rfl))
        first | apply Trace.pu [] (.indexRows el22 (.plain rfl) (.plain rfl) (fun _ => ⟨by omega, by omega⟩)) | apply Trace.pu [] (.indexOwn el22 (.plain rfl) (.plain rfl) (fun _ => ⟨by omega, by omega⟩)) | apply Trace.pu [] (.indexSl el22 (.plain rfl) (.plain rfl) (fun _ => ⟨by omega, by omega⟩)) | apply Trace.pu [] (.indexSa el22 (.plain rfl) (.plain rfl) (fun _ => ⟨by omega, by omega⟩))
        apply Trace.pu [] (.fieldAddr fl49_0 (.plain rfl) rfl)
        apply Trace.pu [] ((Pure.loadRp ty27 (.plain rfl) (fun _ => by rw [Int.toNat_natCast, List.drop_zero]; have := tk_len (i := i) hb (by omega); exact Nat.le_trans (by decide) this)).to (y := .d (byD (b.getD i default).d)) (by rw [Int.toNat_natCast]; exact row_d hb (by omega)))
        apply Trace.pu [] (.ane ba27 (.plain rfl) (.plain rfl) (fun _ => hoa.len) (fun _ => hob.len))
        apply Trace.pu [] (.move (.plain rfl))
        apply Trace.pg [] rfl (.fieldAddr fl24_0 (.plain rfl) rfl)
        first | apply Trace.pg [_] rfl (.loadLoc1D ty22 (.gd rfl (fun h => h)) rfl rfl) | apply Trace.pg [_] rfl (.loadLoc1 ty22 (.gd rfl (fun h => h)) rfl rfl) | apply Trace.pg [] rfl (.loadRp1 ty22 (.gd rfl (fun h => h)) rfl) | apply Trace.pg [_] rfl (.loadCol1 ty22 (.gd rfl (fun h => h)) rfl rfl rfl (fun _ => by omega))
        apply Trace.pg [] rfl (.move (.plain rfl))
        apply Trace.pg [] rfl (.indexRows el22 (.gd rfl (fun h => h)) (.gd rfl (fun h => h)) (fun _ => ⟨by omega, by omega⟩))
        apply Trace.pg [] rfl (.fieldAddr fl49_1 (.gd rfl (fun h => h)) rfl)
        apply Trace.pg [] rfl (.loadRp1 ty25 (.gd rfl (fun h => h)) (r := intsD (a.getD i default).xs) (by rw [Int.toNat_natCast]; exact row_x ha (by omega)))
        apply Trace.pg [] rfl (.fieldAddr fl24_0 (.plain rfl) rfl)
        first | apply Trace.pg [_] rfl (.loadLoc1D ty22 (.gd rfl (fun h => h)) rfl rfl) | apply Trace.pg [_] rfl (.loadLoc1 ty22 (.gd rfl (fun h => h)) rfl rfl) | apply Trace.pg [] rfl (.loadRp1 ty22 (.gd rfl (fun h => h)) rfl) | apply Trace.pg [_] rfl (.loadCol1 ty22 (.gd rfl (fun h => h)) rfl rfl rfl (fun _ => by omega))
        apply Trace.pg [] rfl (.move (.plain rfl))
        apply Trace.pg [] rfl (.indexRows el22 (.gd rfl (fun h => h)) (.gd rfl (fun h => h)) (fun _ => ⟨by omega, by omega⟩))
        apply Trace.pg [] rfl (.fieldAddr fl49_1 (.gd rfl (fun h => h)) rfl)
        apply Trace.pg [] rfl (.loadRp1 ty25 (.gd rfl (fun h => h)) (r := intsD (b.getD i default).xs) (by rw [Int.toNat_natCast]; exact row_x hb (by omega)))
        apply Trace.cg rfl (callArgs0 (.cons (.gd rfl (fun h => h)) (.cons (.gd rfl (fun h => h)) .nil))) (fun h => spec18 (a.getD i default).xs (b.getD i default).xs (by have := hoa.few; omega) (by have := hob.few; omega)) en18
        apply Trace.pg [] rfl (.not (.gd rfl (fun h => h)))
        apply Trace.pu [] (.pick (.plain rfl) (.plain rfl) (.gd rfl (by simp)))
        exact .nil _
      · rfl
      · exact keepOK_of hk hn rfl
      refine WPA.cond rfl (fun hc3 => ?_) (fun hc3 => ?_)
      · have hne : ¬ a = b := fun e => by
          subst e
          rcases pick_eq hc3 with ⟨h, _⟩ | ⟨_, h⟩
          · simp at h
          · simp at h
        apply WPA.seq
        apply WPA.region
        · apply Trace.pu [] (.assign (.plain rfl))
          exact .nil _
        · exact keepOK_of hk hn rfl
        apply WPA.ret
        refine ⟨.inr rfl, ⟨_, (.cons (.tmp rfl) .nil), ?_⟩, by simp [St.get]⟩
        simp [resOf, D.ofV, hne]
      · have he : a.getD i default = b.getD i default := by
          rcases pick_ne hc3 with ⟨_, h⟩ | ⟨h1, h2⟩
          · cases h
          · have e1 : (a.getD i default).d = (b.getD i default).d := by revert h1; generalize (a.getD i default).d = p; generalize (b.getD i default).d = q; intro h1; simpa using h1
            have e2 : (a.getD i default).xs = (b.getD i default).xs := by revert h2; generalize (a.getD i default).xs = p; generalize (b.getD i default).xs = q; intro h2; simpa using h2
            revert e1 e2
            generalize a.getD i default = p
            generalize b.getD i default = q
            intro e1 e2
            cases p; cases q; simp_all
        apply WPA.skip
        apply WPA.region
        · apply Trace.pu [] (.move (.plain rfl))
          apply Trace.pu [] (.arith (.plain rfl) (.plain rfl) rfl (fun _ => bd64 (by omega)))
          apply Trace.pu [] (.assign (.plain rfl))
          exact .nil _
        · exact keepOK_of hk hn rfl
        exact ⟨i + 1, ⟨by omega, fun j hj => by
          by_cases h : j = i
          · rw [h]; exact he
          · exact hi.2 j (by omega)⟩, by omega, St.le_cons rfl (St.le_cons rfl (St.le_cons (iv_eq (by omega)) (St.le_cons rfl (St.le_cons rfl (St.le_nil _)))))⟩
    · have heq : a = b := tks_eq hl fun j hj => hi.2 j (by simp at hc2; omega)
      apply WPA.exit
      apply WPA.seq
      apply WPA.region
      · apply Trace.pu [] (.assign (.plain rfl))
        exact .nil _
      · exact keepOK_of hk hn rfl
      apply WPA.ret
      refine ⟨.inr rfl, ⟨_, (.cons (.tmp rfl) .nil), ?_⟩, by simp [St.get]⟩
      simp [resOf, D.ofV, heq]
/-- soundpost/soundpostref25.Few -/
theorem spec10 (ts : List Tk) (hts : ∀ t ∈ ts, t.Ok0) : FnSpec Tryd.prog 10 [.d (poolD ts)] [] (bv (fewB ts)) [] [] := by
  refine fnSpec_of (rs := [.tmp 2]) Tryd.func10 rfl rfl (Nat.le_of_ble_eq_true rfl) (by simp [St.get]) fun E hk hn => ?_
  apply WPA.seq
  apply WPA.region
  · apply Trace.boxD 10 [] (.plain rfl) rfl rfl
    apply Trace.pu [] (.assign (.plain rfl))
    exact .nil _
  · exact keepOK_of hk hn rfl
  apply WPA.seq
  apply WPA.seq
  apply WPA.region
  · apply Trace.pu [] (.fieldAddr fl24_0 (.plain rfl) rfl)
    first | apply Trace.pu [_] (.loadLoc1D ty22 (.plain rfl) rfl rfl) | apply Trace.pu [_] (.loadLoc1 ty22 (.plain rfl) rfl rfl) | apply Trace.pu [] (.loadRp1 ty22 (.plain rfl) rfl) | apply Trace.pu [_] (.loadCol1 ty22 (.plain rfl) rfl rfl rfl (fun _ => by omega))
    apply Trace.pu [] (.len rfl Tryd.underlying22 (.plain rfl) rfl)
    apply Trace.pu [] (.cmp (.plain rfl) (.plain rfl) rfl)
    exact .nil _
  · exact keepOK_of hk hn rfl
  refine WPA.cond rfl (fun hc1 => ?_) (fun hc1 => ?_)
  · have hE : fewB ts = false := by simp at hc1; simp [fewB]; omega
    apply WPA.seq
    apply WPA.region
    · apply Trace.pu [] (.assign (.plain rfl))
      exact .nil _
    · exact keepOK_of hk hn rfl
    apply WPA.ret
    refine ⟨.inr rfl, ⟨_, (.cons (.tmp rfl) .nil), ?_⟩, by simp [St.get]⟩
    simp [resOf, D.ofV, hE]
  · have h8 : ts.length ≤ 8 := by simp at hc1; omega
    apply WPA.skip
    apply WPA.seq
    apply WPA.seq
    apply WPA.region
    · apply Trace.pu [] (.assign (.plain rfl))
      exact .nil _
    · exact keepOK_of hk hn rfl
    apply WPA.block
    refine WPA.loop (σ := Nat) (fun i => [(sl 1, .av (.loc 10 0)), (sl 3, .av (iv .i64 (i))), (bk 10, .blk (.data [tksD ts]))]) (fun i => i ≤ ts.length ∧ ∀ j, j < i → (ts.getD j default).xs.length ≤ 200) (fun i => ts.length - i) 0
      (St.le_cons rfl (St.le_cons rfl (St.le_cons rfl (St.le_nil _)))) ⟨Nat.zero_le _, fun j hj => absurd hj (by omega)⟩ fun i hi => ?_
    apply WPA.seq
    apply WPA.seq
    apply WPA.region
    · apply Trace.pu [] (.move (.plain rfl))
      apply Trace.pu [] (.fieldAddr fl24_0 (.plain rfl) rfl)
      first | apply Trace.pu [_] (.loadLoc1D ty22 (.plain rfl) rfl rfl) | apply Trace.pu [_] (.loadLoc1 ty22 (.plain rfl) rfl rfl) | apply Trace.pu [] (.loadRp1 ty22 (.plain rfl) rfl) | apply Trace.pu [_] (.loadCol1 ty22 (.plain rfl) rfl rfl rfl (fun _ => by omega))
      apply Trace.pu [] (.len rfl Tryd.underlying22 (.plain rfl) rfl)
      apply Trace.pu [] (.cmp (.plain rfl) (.plain rfl) rfl)
      exact .nil _
    · exact keepOK_of hk hn rfl
    refine WPA.cond rfl (fun hc2 => ?_) (fun hc2 => ?_)
    · have hlt : i < ts.length := by simp at hc2; omega
      apply WPA.skip
      apply WPA.seq
      apply WPA.block
      apply WPA.seq
      apply WPA.region
      · apply Trace.pu [] (.fieldAddr fl24_0 (.plain rfl) rfl)
        first | apply Trace.pu [_] (.loadLoc1D ty22 (.plain rfl) rfl rfl) | apply Trace.pu [_] (.loadLoc1 ty22 (.plain rfl) rfl rfl) | apply Trace.pu [] (.loadRp1 ty22 (.plain rfl) rfl) | apply Trace.pu [_] (.loadCol1 ty22 (.plain rfl) rfl rfl rfl (fun _ => by omega))
        apply Trace.pu [] (.move (.plain rfl))
        first | apply Trace.pu [] (.indexRows el22 (.plain rfl) (.plain rfl) (fun _ => ⟨by omega, by omega⟩)) | apply Trace.pu [] (.indexOwn el22 (.plain rfl) (.plain rfl) (fun _ => ⟨by omega, by omega⟩)) | apply Trace.pu [] (.indexSl el22 (.plain rfl) (.plain rfl) (fun _ => ⟨by omega, by omega⟩)) | apply Trace.pu [] (.indexSa el22 (.plain rfl) (.plain rfl) (fun _ => ⟨by omega, by omega⟩))
        apply Trace.pu [] (.fieldAddr fl49_1 (.plain rfl) rfl)
        apply Trace.pu [] (.loadRp1 ty25 (.plain rfl) (r := intsD (ts.getD i default).xs) (by rw [Int.toNat_natCast]; exact row_x0 hts hlt))
        apply Trace.pu [] (.len rfl Tryd.underlying25 (.plain rfl) rfl)
        apply Trace.pu [] (.cmp (.plain rfl) (.plain rfl) rfl)
        exact .nil _
      · exact keepOK_of hk hn rfl
      refine WPA.cond rfl (fun hc3 => ?_) (fun hc3 => ?_)
      · have hE : fewB ts = false := by
          have h3 : ¬ (ts.getD i default).xs.length ≤ 200 := by revert hc3; generalize (ts.getD i default).xs.length = z; intro hc3; simp at hc3; omega
          cases h : fewB ts with
          | false => rfl
          | true => exact absurd ((fewB_ok hts h).2 _ (getD_mem' hlt)).2 h3
        apply WPA.seq
        apply WPA.region
        · apply Trace.pu [] (.assign (.plain rfl))
          exact .nil _
        · exact keepOK_of hk hn rfl
        apply WPA.ret
        refine ⟨.inr rfl, ⟨_, (.cons (.tmp rfl) .nil), ?_⟩, by simp [St.get]⟩
        simp [resOf, D.ofV, hE]
      · have h3 : (ts.getD i default).xs.length ≤ 200 := by revert hc3; generalize (ts.getD i default).xs.length = z; intro hc3; simp at hc3; omega
        apply WPA.skip
        apply WPA.region
        · apply Trace.pu [] (.move (.plain rfl))
          apply Trace.pu [] (.arith (.plain rfl) (.plain rfl) rfl (fun _ => bd64 (by omega)))
          apply Trace.pu [] (.assign (.plain rfl))
          exact .nil _
        · exact keepOK_of hk hn rfl
        exact ⟨i + 1, ⟨by omega, fun j hj => by
          by_cases h : j = i
          · rw [h]; exact h3
          · exact hi.2 j (by omega)⟩, by omega, St.le_cons rfl (St.le_cons (iv_eq (by omega)) (St.le_cons rfl (St.le_nil _)))⟩
    · have hG : fewB ts = true := by
        simp only [fewB, Bool.and_eq_true, decide_eq_true_eq, List.all_eq_true]
        refine ⟨h8, fun t ht => ?_⟩
        obtain ⟨j, hj, rfl⟩ := List.getElem_of_mem ht
        have := hi.2 j (by simp at hc2; omega)
        rw [List.getD_eq_getElem?_getD, List.getElem?_eq_getElem hj] at this
        exact this
      apply WPA.exit
      apply WPA.seq
      apply WPA.region
      · apply Trace.pu [] (.assign (.plain rfl))
        exact .nil _
      · exact keepOK_of hk hn rfl
      apply WPA.ret
      refine ⟨.inr rfl, ⟨_, (.cons (.tmp rfl) .nil), ?_⟩, by simp [St.get]⟩
      simp [resOf, D.ofV, hG]
/-- soundpost/soundpostlaw25.has -/
theorem spec28 (ks : List (List Int)) (k : List Int) (hks : ∀ k ∈ ks, k.length = 32) (hkl : k.length = 32) (hk1 : ks.length ≤ 1000) : FnSpec Tryd.prog 28 [.d (digsD ks), .d (byD k)] [] (bv (decide (k ∈ ks))) [] [] := by
  refine fnSpec_of (rs := [.tmp 4]) Tryd.func28 rfl rfl (Nat.le_of_ble_eq_true rfl) (by simp [St.get]) fun E hk hn => ?_
  apply WPA.seq
  apply WPA.region
  · apply Trace.boxD 10 [] (.plain rfl) rfl rfl
    apply Trace.pu [] (.assign (.plain rfl))
    exact .nil _
  · exact keepOK_of hk hn rfl
  apply WPA.seq
  apply WPA.seq
  apply WPA.region
  · apply Trace.pu [] (.assign (.plain rfl))
    exact .nil _
  · exact keepOK_of hk hn rfl
  apply WPA.block
  refine WPA.loop (σ := Nat) (fun i => [(sl 0, .av (.d (digsD ks))), (sl 3, .av (.loc 10 0)), (sl 5, .av (iv .i64 (i))), (bk 10, .blk (.data (k.map fun x => .v (.int .u8 x))))]) (fun i => i ≤ ks.length ∧ ¬ k ∈ ks.take i) (fun i => ks.length - i) 0
    (St.le_cons rfl (St.le_cons rfl (St.le_cons rfl (St.le_cons rfl (St.le_nil _))))) ⟨Nat.zero_le _, by simp⟩ fun i hi => ?_
  apply WPA.seq
  apply WPA.seq
  apply WPA.region
  · apply Trace.pu [] (.move (.plain rfl))
    apply Trace.pu [] (.move (.plain rfl))
    apply Trace.pu [] (.len rfl Tryd.underlying41 (.plain rfl) rfl)
    apply Trace.pu [] (.cmp (.plain rfl) (.plain rfl) rfl)
    exact .nil _
  · exact keepOK_of hk hn rfl
  refine WPA.cond rfl (fun hc1 => ?_) (fun hc1 => ?_)
  · have hlt : i < ks.length := by simp at hc1; omega
    obtain ⟨q1, q2⟩ := dig_load hks hlt
    obtain ⟨z, hze⟩ : ∃ z, ks.getD i [] = z := ⟨_, rfl⟩
    have hzm : z ∈ ks := by rw [← hze, List.getD_eq_getElem?_getD, List.getElem?_eq_getElem hlt]; exact List.getElem_mem hlt
    have hzi : ks[i] = z := by rw [← hze, List.getD_eq_getElem?_getD, List.getElem?_eq_getElem hlt]; rfl
    apply WPA.skip
    apply WPA.seq
    apply WPA.block
    apply WPA.seq
    apply WPA.draw mixed
    · apply Trace.pu [] (.move (.plain rfl))
      apply Trace.pu [] (.move (.plain rfl))
      first | apply Trace.pu [] (.indexRows el41 (.plain rfl) (.plain rfl) (fun _ => ⟨by omega, by omega⟩)) | apply Trace.pu [] (.indexOwn el41 (.plain rfl) (.plain rfl) (fun _ => ⟨by omega, by omega⟩)) | apply Trace.pu [] (.indexSl el41 (.plain rfl) (.plain rfl) (fun _ => ⟨by omega, by omega⟩)) | apply Trace.pu [] (.indexSa el41 (.plain rfl) (.plain rfl) (fun _ => ⟨by omega, by omega⟩))
      apply Trace.pu [] ((Pure.loadRp ty27 (.plain rfl) (fun _ => by rw [Int.toNat_natCast, q1]; exact Nat.le_refl _)).to (y := .d (byD z)) (by rw [Int.toNat_natCast, q2, hze]))
      apply Trace.pu [_] (.loadAllD ty27 (.plain rfl) rfl (by simp [hkl]))
      apply Trace.pu [] (.aeq ba27 (.plain rfl) (.plain rfl) (fun _ => hks z hzm) (fun _ => hkl))
      exact .nil _
    · rfl
    · exact keepOK_of hk hn rfl
    refine WPA.cond rfl (fun hc2 => ?_) (fun hc2 => ?_)
    · have he : z = k := by simpa using hc2
      apply WPA.seq
      apply WPA.region
      · apply Trace.pu [] (.assign (.plain rfl))
        exact .nil _
      · exact keepOK_of hk hn rfl
      apply WPA.ret
      refine ⟨.inr rfl, ⟨_, (.cons (.tmp rfl) .nil), ?_⟩, by simp [St.get]⟩
      simp [resOf, D.ofV, ← he, hzm]
    · have he : ¬ z = k := by simpa using hc2
      apply WPA.skip
      apply WPA.region
      · apply Trace.pu [] (.move (.plain rfl))
        apply Trace.pu [] (.arith (.plain rfl) (.plain rfl) rfl (fun _ => bd64 (by omega)))
        apply Trace.pu [] (.assign (.plain rfl))
        exact .nil _
      · exact keepOK_of hk hn rfl
      exact ⟨i + 1, ⟨by omega, fun hm => by
        rw [take_succ' _ _ hlt, hzi, List.mem_append, List.mem_singleton] at hm
        rcases hm with hm | hm
        · exact hi.2 hm
        · exact he hm.symm⟩, by omega, St.le_cons rfl (St.le_cons rfl (St.le_cons (iv_eq (by omega)) (St.le_cons rfl (St.le_nil _))))⟩
  · have hno : ¬ k ∈ ks := by
      have := hi.2
      rwa [List.take_of_length_le (by simp at hc1; omega)] at this
    apply WPA.exit
    apply WPA.seq
    apply WPA.region
    · apply Trace.pu [] (.assign (.plain rfl))
      exact .nil _
    · exact keepOK_of hk hn rfl
    apply WPA.ret
    refine ⟨.inr rfl, ⟨_, (.cons (.tmp rfl) .nil), ?_⟩, by simp [St.get]⟩
    simp [resOf, D.ofV, hno]

end Go.Proofs.YtmdfamnnnoieaaaDoor

