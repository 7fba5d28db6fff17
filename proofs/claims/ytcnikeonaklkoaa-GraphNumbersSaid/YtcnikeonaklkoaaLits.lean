/- Literals of slices that nobody writes, as immutable data. No program in sight. -/
import Derived.Test.YtcnikeonaklkoaaDefer
namespace Go.Proofs.Ytcnikeonaklkoaa
open Go
set_option linter.unusedVariables false
set_option linter.unusedSimpArgs false
variable {P : Program} {S : St} {ro : Ro} {ops : Array Oper} {E : Env}
section
variable {d : Nat} {t e ty : TypeId} {pos : String} {af : Array Edge}
/-- []T{..}, as immutable rows. -/
theorem Trace.buildRows {S' : St} {r : List Oper} {L : List Ax} {parts : Array (Nat × Operand)} {zs : List Value} {n len : Nat} {l : List AV} {dl : List D} {g : Nat → List D}
    (ht : sliceOf P t e n = true) (hz : ZeroIs P e zs) (hzn : zs.length = n) (hn : 0 < n) (hlen : len * n ≤ 16777216) (hf : Fills S (fun i => some (i * n, n)) (vals ((List.range (len * n)).map fun k => zs.getD (k % n) undef)) parts.toList l)
    (hd : dsOf l = some dl) (hg : ∀ i, i < len → (dl.drop (i * n)).take n = g i)
    (h : Trace P ro ops r ((sl d, .av (.d (.rows n len g))) :: S) L S') :
    Trace P ro ops (⟨some d, .buildSlice t len parts, ty, pos, af, none⟩ :: r) S (⟨opNames ⟨some d, .buildSlice t len parts, ty, pos, af, none⟩ ++ ([] : List Nat).map bk, S, [(sl d, some (.av (.d (.rows n len g))))], []⟩ :: L) S' := by
  refine .cons (axOp_imm rfl rfl (fun _ h => nomatch h) fun E V M a w h => ?_) (fun _ _ => rfl) (fun l hl => by cases hl) (cons_upd S _ _) h
  have hop : ∀ p ∈ parts.toList, ∀ y, Ev S true p.2 y → Den V M y (a.eval p.2) := fun p hp y hy => h.opd p.2 (by simp only [Op.operands, List.mem_toArray, List.mem_map]; exact ⟨p, hp, rfl⟩) y hy
  clear h
  generalize a.eval = ρ at *
  obtain ⟨z, hzs, hr⟩ := zeroIs_run hz
  obtain ⟨hu, hsz⟩ := sliceOf_of ht
  obtain ⟨vs', hfl, hv'⟩ := fills_run hf hop (denL_vals V M _)
  have hds := dsOf_eq hd
  subst hds
  have hlv : vs'.length = len * n := by
    have : ∀ {place : Nat → Option (Nat × Nat)} {l l' : List AV} {ps : List (Nat × Operand)}, Fills S place l ps l' → l'.length = l.length := by
      intro place l l' ps hf
      induction hf with
      | nil => rfl
      | cons e hu hp ho h ih => rw [ih, spliceL_length ho]
    have h1 := this hf
    rw [← hv'.len, h1]
    simp [vals]
  have hdl : dl.length = len * n := by have := hv'.len; simp at this; omega
  have hzc : z.cells = zs.toArray := by rw [← hzs, Array.toArray_toList]
  have hmap : (parts.map fun x => (x.1, ρ x.2)).toList = parts.toList.map fun p => (p.1, ρ p.2) := by simp
  refine ⟨w.alloc (.cells vs'.toArray e), .slice (some ⟨w.heap.size, 0, none⟩) len len, vs'.toArray, ?_, WStep.alloc w _, ?_, ?_⟩
  · have hbig : ¬ (len * n > 2 ^ 24) := by omega
    have hfl' : Instr.fill (fun i => some (i * n, n)) ((Array.range (len * n)).map fun i => z.cells[i % z.cells.size]!) ((parts.map fun x => (x.1, ρ x.2)).toList) = some vs'.toArray := by
      rw [hmap, hzc, zeros_arr zs _ (by omega), hzn]; exact hfl
    have hb : (Instr.buildSlice t len (parts.map fun x => (x.1, ρ x.2))).run P w = .ok (.slice (some ⟨w.heap.size, 0, none⟩) len len) (w.alloc (.cells vs'.toArray e)) := by
      unfold Instr.buildSlice
      simp only [Sem.run_bind, run_underlying hu, Result.andThen, hsz, hbig, if_false]
      refine zeros_run (P := P) (hr w) ?_ fun h0 => ?_
      · rw [hfl']; simp [newRow]
      · have e0 : ((Array.range (len * n)).map fun x => (#[] : Array Value)[x % (#[] : Array Value).size]!) = (Array.range (len * n)).map fun i => z.cells[i % z.cells.size]! := by rw [h0]; simp
        rw [e0, hfl']; simp [newRow]
    simp only [execOp, Sem.run_bind, hb, Result.andThen]
    rfl
  · intro o u ho
    simp only [World.cell?, heap_alloc]
    simpa using ho
  · intro M' hM' hle
    have hmul : ∀ i j, i < len → j < n → i * n + j < len * n := fun i j hi hj => by
      have : (i + 1) * n ≤ len * n := Nat.mul_le_mul_right _ hi
      rw [Nat.add_mul] at this
      omega
    refine .rows n len g w.heap.size 0 len (Nat.le_refl _) (fun i hi => ?_) (fun i j => vs'.getD (i * n + j) undef) (fun i j hi hj => ?_) (fun i j x hi hx => ?_)
    · rw [← hg i hi, List.length_take, List.length_drop]
      have : (i + 1) * n ≤ len * n := Nat.mul_le_mul_right _ hi
      rw [Nat.add_mul] at this
      omega
    · rw [hM', Nat.zero_add]
      have := hmul i j hi hj
      have hlt : i * n + j < vs'.length := by omega
      simp [List.getD, hlt]
    · rw [← hg i hi, List.getElem?_take] at hx
      split at hx
      · rename_i hj
        rw [List.getElem?_drop] at hx
        have := hmul i j hi hj
        have hlt : i * n + j < vs'.length := by omega
        have h2 := hv'.at' (i * n + j) (.d x) (vs'.getD (i * n + j) undef) (by simp [hx]) (by simp [List.getD, hlt])
        cases h2 with
        | d _ _ h => exact h.mono hle
      · cases hx
end

/-- An own slice in the place of immutable rows: the call takes its block over. -/
theorem FnSpec.thaw {f : FuncId} {l n len : Nat} {cols : List Col} {g : Nat → List D} {A1 A2 : List AV} {Bs Bs' : St} {res : AV} {keep : List Nat} (h : FnSpec P f (A1 ++ .d (.rows n len g) :: A2) Bs res Bs' keep) (hg : ∀ i, i < len → cols.map (Col.at · i) = g i)
    (hk : Bs.get (bk l) = none) : FnSpec P f (A1 ++ .own l len :: A2) ((bk l, .blk (.app n len cols)) :: Bs) res Bs' keep := by
  intro V M w passed vs hw hd
  have ha : RepA (.of w passed M V keep 0) [(bk l, .blk (.app n len cols))] V M { tmps := #[], defers := [] } := ⟨fun t x e => by
    rw [get_cons, if_neg (Ne.symm (sl_ne_bk t l))] at e
    simp [St.get] at e, rfl, rfl⟩
  have ha' : RepA (.of w passed M V keep 0) ((bk l, .blk (.app n len cols)) :: Bs) V M { tmps := #[], defers := [] } ∨ True := .inr trivial
  obtain ⟨M2, hle, hden, hw2⟩ : ∃ M' : Mem, M.le M' ∧ (∀ v, Den V M (.own l len) v → Den V M' (.d (rowsD n len cols)) v) ∧ RepW (.of w passed M V keep 0) Bs V M' w := by
    have hT : RepW (.of w passed M V keep 0) (((bk l, .blk (.app n len cols)) :: Bs).filter fun p => p.1 % 2 == 1) V M w := hw.blks_only fun m B e => by
      have key : ∀ T : St, St.get (T.filter fun p => p.1 % 2 == 1) (bk m) = St.get T (bk m) := by
        intro T
        induction T with
        | nil => rfl
        | cons q T ih =>
          obtain ⟨k, c⟩ := q
          by_cases hk : k % 2 = 1
          · have hk' : ((k, c).1 % 2 == 1) = true := by simpa using hk
            rw [List.filter_cons_of_pos (p := fun p : Nat × Cont => p.1 % 2 == 1) hk', get_cons, get_cons, ih]
          · have hk' : ¬ ((k, c).1 % 2 == 1) = true := by simpa using hk
            rw [List.filter_cons_of_neg (p := fun p : Nat × Cont => p.1 % 2 == 1) hk', ih, get_cons, if_neg (fun e => hk (by rw [e]; unfold bk; omega))]
      rw [key] at e; exact e
    have haT : RepA (.of w passed M V keep 0) (((bk l, .blk (.app n len cols)) :: Bs).filter fun p => p.1 % 2 == 1) V M { tmps := #[], defers := [] } := ⟨fun t x e => by
      have := St.mem_of_get e
      have := (List.mem_filter.1 this).2
      simp [sl] at this, rfl, rfl⟩
    have hgl : St.get (((bk l, .blk (.app n len cols)) :: Bs).filter fun p => p.1 % 2 == 1) (bk l) = some (.blk (.app n len cols)) := by
      rw [List.filter_cons_of_pos (by simp [bk]), get_cons, if_pos rfl]
    obtain ⟨M', h1, h2, _, h3⟩ := rep_freeze haT hT hgl
    refine ⟨M', h1, h2, h3.blks_only fun m B e => ?_⟩
    have hml : bk l ≠ bk m := fun e' => by rw [← e', hk] at e; cases e
    rw [St.get_del, if_neg hml, List.filter_cons_of_pos (by simp [bk]), get_cons, if_neg hml]
    have key : ∀ T : St, St.get (T.filter fun p => p.1 % 2 == 1) (bk m) = St.get T (bk m) := by
      intro T
      induction T with
      | nil => rfl
      | cons q T ih =>
        obtain ⟨k, c⟩ := q
        by_cases hk : k % 2 = 1
        · have hk' : ((k, c).1 % 2 == 1) = true := by simpa using hk
          rw [List.filter_cons_of_pos (p := fun p : Nat × Cont => p.1 % 2 == 1) hk', get_cons, get_cons, ih]
        · have hk' : ¬ ((k, c).1 % 2 == 1) = true := by simpa using hk
          rw [List.filter_cons_of_neg (p := fun p : Nat × Cont => p.1 % 2 == 1) hk', ih, get_cons, if_neg (fun e => hk (by rw [e]; unfold bk; omega))]
    rw [key]; exact e
  have hw3 : RepW (.of w passed M2 V keep 0) Bs V M2 w :=
    { blks := hw2.blks, inj := hw2.inj, sep := hw2.sep, fresh := hw2.fresh, bd := hw2.bd, mem := hw2.mem, mle := Mem.le_refl _, mnew := fun b o h => .inl h, keep := hw2.keep, frame := ⟨hw2.frame.os, hw2.frame.tape, hw2.frame.output, hw2.frame.size, hw2.frame.block⟩ }
  have hd3 : DenL V M2 (A1 ++ .d (.rows n len g) :: A2) vs := ⟨by have := hd.len; simpa using this, fun j x y hx hy => by
    have hall : ∀ x', (A1 ++ .own l len :: A2)[j]? = some x' → Den V M x' y := fun x' hx' => hd.at' j x' y hx' hy
    by_cases hj : j < A1.length
    · rw [List.getElem?_append_left hj] at hx
      exact (hall x (by rw [List.getElem?_append_left hj]; exact hx)).mono hle fun _ _ => ⟨rfl, rfl⟩
    · rw [List.getElem?_append_right (by omega)] at hx
      cases hj' : j - A1.length with
      | zero =>
        rw [hj'] at hx
        simp only [List.getElem?_cons_zero, Option.some.injEq] at hx
        subst hx
        have := hden y (hall (.own l len) (by rw [List.getElem?_append_right (by omega), hj']; rfl))
        cases this with
        | d _ _ h => exact .d _ _ (denD_rowsLe h hg)
      | succ k =>
        rw [hj'] at hx
        exact (hall x (by rw [List.getElem?_append_right (by omega), hj']; exact hx)).mono hle fun _ _ => ⟨rfl, rfl⟩⟩
  refine (h V M2 w passed vs hw3 hd3).mono ?_
  rintro e w' ⟨v, V', M', rfl, hv, hw'⟩
  refine ⟨v, V', M', rfl, hv, ?_⟩
  exact { blks := hw'.blks, inj := hw'.inj, sep := hw'.sep, fresh := hw'.fresh, bd := hw'.bd, mem := hw'.mem, mle := Mem.le_trans hle hw'.mle
          mnew := fun b o h => by
            rcases hw'.mnew b o h with h | h
            · rcases hw2.mnew b o h with h | h
              · exact .inl h
              · exact .inr h
            · exact .inr h
          keep := hw'.keep, frame := ⟨hw'.frame.os, hw'.frame.tape, hw'.frame.output, hw'.frame.size, hw'.frame.block⟩ }

end Go.Proofs.Ytcnikeonaklkoaa
