/- Graphs and lists that come in as arguments. -/
import Derived.Test.YtcnikeonaklkoaaTypes
import Derived.Test.YtcnikeonaklkoaaGraphRep
import Derived.Test.YtcnikeonaklkoaaOpen
namespace Go.Proofs.Ytcnikeonaklkoaa
open Go
set_option linter.unusedVariables false
set_option linter.unusedSimpArgs false

theorem own : ownKnob Try.prog.godebug = none := by kernel_rfl
theorem laid : laidOutB Try.prog = true := by kernel_rfl
def plains : List TypeId := [25, 22, 3, 23, 40, 38, 5]
theorem plain : plainB Try.prog plains = true := by kernel_rfl
theorem rowed : (plains.all fun t => decide (t < Try.prog.types.size)) = true := by kernel_rfl
theorem inTable : ∀ t ∈ plains, t < Try.prog.types.size := fun t ht => by simpa using List.all_eq_true.1 rowed t ht
theorem reads : (plains.all fun t => Try.prog.readableRec t) = true := by kernel_rfl
theorem readable {ts : List TypeId} (h : ts.all (fun t => memB t plains) = true) : ∀ t ∈ ts, Try.prog.readableRec t = true ∧ t < Try.prog.types.size := fun t ht =>
  have hm : t ∈ plains := memB_iff.1 (List.all_eq_true.1 h t ht)
  ⟨List.all_eq_true.1 reads t hm, inTable t hm⟩
theorem bytes3 : Try.prog.bytesOf 3 = 8 := by kernel_rfl
theorem bytes40 : Try.prog.bytesOf 40 = 32 := by kernel_rfl
theorem bytes5 : Try.prog.bytesOf 5 = 1 := by kernel_rfl
theorem cells3 : Try.prog.cellsOf 3 = 1 := by kernel_rfl
theorem cells5 : Try.prog.cellsOf 5 = 1 := by kernel_rfl
theorem cells22 : Try.prog.cellsOf 22 = 1 := by kernel_rfl
theorem cells23 : Try.prog.cellsOf 23 = 1 := by kernel_rfl
theorem cells25 : Try.prog.cellsOf 25 = 2 := by kernel_rfl
theorem cells40 : Try.prog.cellsOf 40 = 4 := by kernel_rfl

def I64 (x : Int) : Prop := -9223372036854775808 ≤ x ∧ x ≤ 9223372036854775807
theorem i64_of {m : Int} (h : IntKind.min .i64 ≤ m ∧ m ≤ IntKind.max .i64) : I64 m := by
  simpa [I64, IntKind.min, IntKind.max, IntKind.signed, IntKind.bits] using h
theorem ints_rows : ∀ (ls : List (List D)), (∀ l ∈ ls, Typed Try.prog 3 l) → ∃ xs : List Int, xs.length = ls.length ∧ (∀ x ∈ xs, I64 x) ∧ ∀ i, i < ls.length → ls.getD i [] = [.v (.int .i64 (xs.getD i 0))]
  | [], _ => ⟨[], rfl, (fun x hx => by cases hx), fun i hi => by simp at hi⟩
  | l :: r, h => by
    obtain ⟨n, rfl, h1, h2⟩ := typed_int Try.underlying3 (h l (by simp))
    obtain ⟨xs, g1, g2, g3⟩ := ints_rows r (fun x hx => h x (by simp [hx]))
    refine ⟨n :: xs, by simp [g1], fun x hx => ?_, fun i hi => ?_⟩
    · rcases List.mem_cons.1 hx with rfl | hx
      · exact i64_of ⟨h1, h2⟩
      · exact g2 x hx
    · cases i with
      | zero => rfl
      | succ i => simpa using g3 i (by simpa using hi)
theorem ints_of {x : D} (h : Typed Try.prog 22 [x]) : ∃ xs : List Int, (∀ y ∈ xs, I64 y) ∧ xs.length ≤ 17592186044416 ∧ ∀ M v, DenD M x v → DenD M (intsD xs) v := by
  obtain ⟨ls, e, hl, hls⟩ := typed_slice Try.underlying22 h
  obtain ⟨xs, h1, h2, h3⟩ := ints_rows ls hls
  rw [bytes3] at hl
  refine ⟨xs, h2, by omega, fun M v hd => ?_⟩
  simp only [List.cons.injEq, and_true] at e
  subst e
  rw [cells3] at hd
  unfold intsD rowsD
  rw [h1]
  exact denD_rowsLe hd (fun i hi => by rw [h3 i hi]; rfl)
theorem bytes_rows : ∀ (ls : List (List D)), (∀ l ∈ ls, Typed Try.prog 5 l) → ∃ xs : List Int, xs.length = ls.length ∧ (∀ x ∈ xs, 0 ≤ x ∧ x ≤ 255) ∧ ∀ i, i < ls.length → ls.getD i [] = [.v (.int .u8 (xs.getD i 0))]
  | [], _ => ⟨[], rfl, (fun x hx => by cases hx), fun i hi => by simp at hi⟩
  | l :: r, h => by
    obtain ⟨n, rfl, h1, h2⟩ := typed_int Try.underlying5 (h l (by simp))
    obtain ⟨xs, g1, g2, g3⟩ := bytes_rows r (fun x hx => h x (by simp [hx]))
    refine ⟨n :: xs, by simp [g1], fun x hx => ?_, fun i hi => ?_⟩
    · rcases List.mem_cons.1 hx with rfl | hx
      · simp [IntKind.min, IntKind.max, IntKind.signed, IntKind.bits] at h1 h2
        omega
      · exact g2 x hx
    · cases i with
      | zero => rfl
      | succ i => simpa using g3 i (by simpa using hi)
abbrev u8D (l : List Int) : D := rowsD 1 l.length [.ints .u8 l]
theorem bytes_of {x : D} (h : Typed Try.prog 38 [x]) : ∃ xs : List Int, (∀ x ∈ xs, 0 ≤ x ∧ x ≤ 255) ∧ xs.length ≤ 140737488355328 ∧ ∀ M v, DenD M x v → DenD M (u8D xs) v := by
  obtain ⟨ls, e, hl, hls⟩ := typed_slice Try.underlying38 h
  obtain ⟨xs, h1, h2, h3⟩ := bytes_rows ls hls
  rw [bytes5] at hl
  refine ⟨xs, h2, by omega, fun M v hd => ?_⟩
  simp only [List.cons.injEq, and_true] at e
  subst e
  rw [cells5] at hd
  unfold u8D rowsD
  rw [h1]
  exact denD_rowsLe hd (fun i hi => by rw [h3 i hi]; rfl)
def EdgOK (e : Edg) : Prop := (-9223372036854775808 ≤ e.f ∧ e.f ≤ 9223372036854775807) ∧ (-9223372036854775808 ≤ e.t ∧ e.t ≤ 9223372036854775807) ∧ (-9223372036854775808 ≤ e.w ∧ e.w ≤ 9223372036854775807) ∧ -9223372036854775808 ≤ e.d ∧ e.d ≤ 9223372036854775807
theorem edge_of {l : List D} (h : Typed Try.prog 40 l) : ∃ e : Edg, l = e.ds ∧ EdgOK e := by
  cases h with
  | int hu h => rw [Try.underlying40] at hu; cases hu
  | bool hu => rw [Try.underlying40] at hu; cases hu
  | str hu hs => rw [Try.underlying40] at hu; cases hu
  | array hu hl h => rw [Try.underlying40] at hu; cases hu
  | slice hu hl h => rw [Try.underlying40] at hu; cases hu
  | struct hu hl h =>
    rw [Try.underlying40] at hu
    cases hu
    rw [cells40] at hl
    match l, hl with
    | [a, b, c, d], _ =>
    have h0 : Typed Try.prog 3 (([a, b, c, d].drop 0).take (Try.prog.cellsOf 3)) := h 0 _ rfl
    have h1 : Typed Try.prog 3 (([a, b, c, d].drop 1).take (Try.prog.cellsOf 3)) := h 1 _ rfl
    have h2 : Typed Try.prog 3 (([a, b, c, d].drop 2).take (Try.prog.cellsOf 3)) := h 2 _ rfl
    have h3 : Typed Try.prog 3 (([a, b, c, d].drop 3).take (Try.prog.cellsOf 3)) := h 3 _ rfl
    rw [cells3] at h0 h1 h2 h3
    obtain ⟨n0, e0, k0⟩ := typed_int Try.underlying3 h0
    obtain ⟨n1, e1, k1⟩ := typed_int Try.underlying3 h1
    obtain ⟨n2, e2, k2⟩ := typed_int Try.underlying3 h2
    obtain ⟨n3, e3, k3⟩ := typed_int Try.underlying3 h3
    have ea : a = .v (.int .i64 n0) := by simpa using e0
    have eb : b = .v (.int .i64 n1) := by simpa using e1
    have ec : c = .v (.int .i64 n2) := by simpa using e2
    have ed : d = .v (.int .i64 n3) := by simpa using e3
    subst ea; subst eb; subst ec; subst ed
    exact ⟨⟨n0, n1, n2, n3⟩, rfl, i64_of k0, i64_of k1, i64_of k2, i64_of k3⟩
theorem edges_rows : ∀ (ls : List (List D)), (∀ l ∈ ls, Typed Try.prog 40 l) → ∃ es : List Edg, es.length = ls.length ∧ (∀ e ∈ es, EdgOK e) ∧ ∀ i, i < ls.length → ls.getD i [] = (es.getD i default).ds
  | [], _ => ⟨[], rfl, (fun x hx => by cases hx), fun i hi => by simp at hi⟩
  | l :: r, h => by
    obtain ⟨e, rfl, h1⟩ := edge_of (h l (by simp))
    obtain ⟨xs, g1, g2, g3⟩ := edges_rows r (fun x hx => h x (by simp [hx]))
    refine ⟨e :: xs, by simp [g1], fun x hx => ?_, fun i hi => ?_⟩
    · rcases List.mem_cons.1 hx with rfl | hx
      · exact h1
      · exact g2 x hx
    · cases i with
      | zero => rfl
      | succ i => simpa using g3 i (by simpa using hi)
theorem edges_of {x : D} (h : Typed Try.prog 23 [x]) : ∃ es : List Edg, (∀ e ∈ es, EdgOK e) ∧ es.length ≤ 17592186044416 ∧ ∀ M v, DenD M x v → DenD M (edgesD es) v := by
  obtain ⟨ls, e, hl, hls⟩ := typed_slice Try.underlying23 h
  obtain ⟨xs, h1, h2, h3⟩ := edges_rows ls hls
  rw [bytes40] at hl
  refine ⟨xs, h2, by omega, fun M v hd => ?_⟩
  simp only [List.cons.injEq, and_true] at e
  subst e
  rw [cells40] at hd
  unfold edgesD
  rw [h1]
  exact denD_rowsLe hd (fun i hi => h3 i hi)
theorem graph_of {l : List D} (h : Typed Try.prog 25 l) : ∃ g : Gr, g.Sz ∧ ∀ M v, DenD M (.agg l) v → DenD M (.agg g.ds) v := by
  cases h with
  | int hu h => rw [Try.underlying25] at hu; cases hu
  | bool hu => rw [Try.underlying25] at hu; cases hu
  | str hu hs => rw [Try.underlying25] at hu; cases hu
  | array hu hl h => rw [Try.underlying25] at hu; cases hu
  | slice hu hl h => rw [Try.underlying25] at hu; cases hu
  | struct hu hl h =>
    rw [Try.underlying25] at hu
    cases hu
    rw [cells25] at hl
    match l, hl with
    | [a, b], _ =>
    have h0 : Typed Try.prog 22 (([a, b].drop 0).take (Try.prog.cellsOf 22)) := h 0 _ rfl
    have h1 : Typed Try.prog 23 (([a, b].drop 1).take (Try.prog.cellsOf 23)) := h 1 _ rfl
    rw [cells22] at h0
    rw [cells23] at h1
    obtain ⟨xs, x1, x2, x3⟩ := ints_of h0
    obtain ⟨es, e1, e2, e3⟩ := edges_of h1
    refine ⟨⟨xs, es⟩, ⟨by show xs.length ≤ _; omega, by show es.length ≤ _; omega, x1, e1⟩, fun M v hd => ?_⟩
    cases hd with
    | agg _ vs hl hv =>
      refine .agg _ vs hl fun j x y hx hy => ?_
      match j with
      | 0 =>
        simp at hx; subst hx
        exact x3 _ _ (hv 0 a y rfl hy)
      | 1 =>
        simp at hx; subst hx
        exact e3 _ _ (hv 1 b y rfl hy)
      | j + 2 => simp at hx
theorem denL1 {V : Vals} {M : Mem} {x : D} {v : Value} (h : DenD M x v) : DenL V M [.d x] [v] := ⟨rfl, fun j y z hy hz => by
  cases j with
  | zero => simp at hy hz; subst hy; subst hz; exact .d _ _ h
  | succ j => simp at hy⟩
theorem denL2 {V : Vals} {M : Mem} {x y : D} {v w : Value} (h : DenD M x v) (k : DenD M y w) : DenL V M [.d x, .d y] [v, w] := ⟨rfl, fun j a b ha hb => by
  match j with
  | 0 => simp at ha hb; subst ha; subst hb; exact .d _ _ h
  | 1 => simp at ha hb; subst ha; subst hb; exact .d _ _ k
  | j + 2 => simp at ha⟩
theorem denL3 {V : Vals} {M : Mem} {x y z : D} {v w u : Value} (h : DenD M x v) (k : DenD M y w) (m : DenD M z u) : DenL V M [.d x, .d y, .d z] [v, w, u] := ⟨rfl, fun j a b ha hb => by
  match j with
  | 0 => simp at ha hb; subst ha; subst hb; exact .d _ _ h
  | 1 => simp at ha hb; subst ha; subst hb; exact .d _ _ k
  | 2 => simp at ha hb; subst ha; subst hb; exact .d _ _ m
  | j + 3 => simp at ha⟩
theorem denL4 {V : Vals} {M : Mem} {x y z q : D} {v w u r : Value} (h : DenD M x v) (k : DenD M y w) (m : DenD M z u) (n : DenD M q r) : DenL V M [.d x, .d y, .d z, .d q] [v, w, u, r] := ⟨rfl, fun j a b ha hb => by
  match j with
  | 0 => simp at ha hb; subst ha; subst hb; exact .d _ _ h
  | 1 => simp at ha hb; subst ha; subst hb; exact .d _ _ k
  | 2 => simp at ha hb; subst ha; subst hb; exact .d _ _ m
  | 3 => simp at ha hb; subst ha; subst hb; exact .d _ _ n
  | j + 4 => simp at ha⟩

end Go.Proofs.Ytcnikeonaklkoaa

