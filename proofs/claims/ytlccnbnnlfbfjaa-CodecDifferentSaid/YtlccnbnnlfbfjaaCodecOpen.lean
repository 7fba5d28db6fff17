/- Values and bytes that come in as arguments. -/
import Derived.Test.YtlccnbnnlfbfjaaCodec15
import Derived.Test.YtlccnbnnlfbfjaaOpen
namespace Go.Proofs.Ytlccnbnnlfbfjaa
open Go
set_option linter.unusedVariables false
set_option linter.unusedSimpArgs false

theorem own : ownKnob Try.prog.godebug = none := by kernel_rfl
theorem laid : laidOutB Try.prog = true := by kernel_rfl
def plains : List TypeId := [24, 22, 3, 9, 27, 5]
theorem plain : plainB Try.prog plains = true := by kernel_rfl
theorem rowed : (plains.all fun t => decide (t < Try.prog.types.size)) = true := by kernel_rfl
theorem inTable : ∀ t ∈ plains, t < Try.prog.types.size := fun t ht => by simpa using List.all_eq_true.1 rowed t ht
theorem reads : (plains.all fun t => Try.prog.readableRec t) = true := by kernel_rfl
theorem readable {ts : List TypeId} (h : ts.all (fun t => memB t plains) = true) : ∀ t ∈ ts, Try.prog.readableRec t = true ∧ t < Try.prog.types.size := fun t ht =>
  have hm : t ∈ plains := memB_iff.1 (List.all_eq_true.1 h t ht)
  ⟨List.all_eq_true.1 reads t hm, inTable t hm⟩
theorem cells24 : Try.prog.cellsOf 24 = 4 := by kernel_rfl
theorem cells3 : Try.prog.cellsOf 3 = 1 := by kernel_rfl
theorem cells9 : Try.prog.cellsOf 9 = 1 := by kernel_rfl
theorem cells22 : Try.prog.cellsOf 22 = 1 := by kernel_rfl
theorem cells5 : Try.prog.cellsOf 5 = 1 := by kernel_rfl
theorem bytes24 : Try.prog.bytesOf 24 = 56 := by kernel_rfl
theorem bytes5 : Try.prog.bytesOf 5 = 1 := by kernel_rfl

theorem val_rows : ∀ (ls : List (List D)), (∀ l ∈ ls, ∃ v : Val, l = v.cells ∧ v.Sz) → ∃ vs : List Val, vs.length = ls.length ∧ (∀ v ∈ vs, v.Sz) ∧ ∀ i, ls.getD i [] = Val.row vs i
  | [], _ => ⟨[], rfl, by simp, fun i => by simp [Val.row]⟩
  | l :: r, h => by
    obtain ⟨v, rfl, hv⟩ := h l (by simp)
    obtain ⟨vs, h1, h2, h3⟩ := val_rows r (fun x hx => h x (by simp [hx]))
    refine ⟨v :: vs, by simp [h1], by simpa using ⟨hv, h2⟩, fun i => ?_⟩
    cases i with
    | zero => rfl
    | succ i => simpa [Val.row] using h3 i
theorem val_both {t : TypeId} {l : List D} (h : Typed Try.prog t l) : (t = 24 → ∃ v : Val, l = v.cells ∧ v.Sz) ∧ (t = 22 → ∃ vs : List Val, l = [.rows 4 vs.length (Val.row vs)] ∧ (∀ v ∈ vs, v.Sz) ∧ vs.length ≤ 140737488355328) := by
  induction h with
  | int hu h => exact ⟨fun e => (by subst e; rw [Try.underlying24] at hu; cases hu), fun e => (by subst e; rw [Try.underlying22] at hu; cases hu)⟩
  | bool hu => exact ⟨fun e => (by subst e; rw [Try.underlying24] at hu; cases hu), fun e => (by subst e; rw [Try.underlying22] at hu; cases hu)⟩
  | str hu hs => exact ⟨fun e => (by subst e; rw [Try.underlying24] at hu; cases hu), fun e => (by subst e; rw [Try.underlying22] at hu; cases hu)⟩
  | array hu hl h => exact ⟨fun e => (by subst e; rw [Try.underlying24] at hu; cases hu), fun e => (by subst e; rw [Try.underlying22] at hu; cases hu)⟩
  | @slice t e ls hu hl h ih =>
    refine ⟨fun e => (by subst e; rw [Try.underlying24] at hu; cases hu), fun e => ?_⟩
    subst e
    rw [Try.underlying22] at hu
    cases hu
    obtain ⟨vs, h1, h2, h3⟩ := val_rows ls (fun l hl => (ih l hl).1 rfl)
    rw [bytes24] at hl
    refine ⟨vs, ?_, h2, by omega⟩
    rw [cells24, h1]
    congr 2
    funext i
    exact h3 i
  | @struct t fs l hu hl h ih =>
    refine ⟨fun e => ?_, fun e => (by subst e; rw [Try.underlying22] at hu; cases hu)⟩
    subst e
    rw [Try.underlying24] at hu
    cases hu
    rw [cells24] at hl
    match l, hl with
    | [a, b, c, d], _ =>
    have h0 := h 0 _ rfl
    have h1 := h 1 _ rfl
    have h2 := h 2 _ rfl
    have h3 := (ih 3 _ rfl).2 rfl
    have h0 : Typed Try.prog 3 (([a, b, c, d].drop 0).take (Try.prog.cellsOf 3)) := h0
    have h1 : Typed Try.prog 3 (([a, b, c, d].drop 1).take (Try.prog.cellsOf 3)) := h1
    have h2 : Typed Try.prog 9 (([a, b, c, d].drop 2).take (Try.prog.cellsOf 9)) := h2
    have h3 : ∃ vs : List Val, ([a, b, c, d].drop 3).take (Try.prog.cellsOf 22) = [.rows 4 vs.length (Val.row vs)] ∧ (∀ v ∈ vs, v.Sz) ∧ vs.length ≤ 140737488355328 := h3
    rw [cells3] at h0 h1
    rw [cells9] at h2
    rw [cells22] at h3
    obtain ⟨k, e0, hk⟩ := typed_int Try.underlying3 h0
    obtain ⟨n, e1, hn⟩ := typed_int Try.underlying3 h1
    obtain ⟨s, e2, hs⟩ := typed_str Try.underlying9 h2
    obtain ⟨vs, e3, hv1, hv2⟩ := h3
    have ea : a = .v (.int .i64 k) := by simpa using e0
    have eb : b = .v (.int .i64 n) := by simpa using e1
    have ec : c = .v (.string s) := by simpa using e2
    have ed : d = .rows 4 vs.length (Val.row vs) := by simpa using e3
    subst ea; subst eb; subst ec; subst ed
    have bd : ∀ {m : Int}, IntKind.min .i64 ≤ m ∧ m ≤ IntKind.max .i64 → -9223372036854775808 ≤ m ∧ m ≤ 9223372036854775807 := fun h => by
      simpa [IntKind.min, IntKind.max, IntKind.signed, IntKind.bits] using h
    exact ⟨.mk k n s vs, rfl, .mk _ _ _ _ (bd hk) (bd hn) (by omega) hv2 hv1⟩
theorem val_of {l : List D} (h : Typed Try.prog 24 l) : ∃ v : Val, l = v.cells ∧ v.Sz := (val_both h).1 rfl
theorem vals_of {l : List D} (h : Typed Try.prog 22 l) : ∃ vs : List Val, l = [.rows 4 vs.length (Val.row vs)] ∧ (∀ v ∈ vs, v.Sz) ∧ vs.length ≤ 140737488355328 := (val_both h).2 rfl
theorem bytes_rows : ∀ (ls : List (List D)), (∀ l ∈ ls, Typed Try.prog 5 l) → ∃ xs : List Int, xs.length = ls.length ∧ Bytes xs ∧ ∀ i, i < ls.length → ls.getD i [] = [.v (.int .u8 (xs.getD i 0))]
  | [], _ => ⟨[], rfl, (fun x hx => by cases hx), fun i hi => by simp at hi⟩
  | l :: r, h => by
    obtain ⟨n, rfl, h1, h2⟩ := typed_int Try.underlying5 (h l (by simp))
    obtain ⟨xs, g1, g2, g3⟩ := bytes_rows r (fun x hx => h x (by simp [hx]))
    refine ⟨n :: xs, by simp [g1], fun x hx => ?_, fun i hi => ?_⟩
    · rcases List.mem_cons.1 hx with rfl | hx
      · simp [IntKind.min, IntKind.max, IntKind.signed, IntKind.bits] at h1 h2
        omega
      · exact g2 x hx
    · cases i with
      | zero => rfl
      | succ i => simpa using g3 i (by simpa using hi)
theorem bytes_of {x : D} (h : Typed Try.prog 27 [x]) : ∃ xs : List Int, Bytes xs ∧ xs.length ≤ 140737488355328 ∧ ∀ M v, DenD M x v → DenD M (bytesD xs) v := by
  obtain ⟨ls, e, hl, hls⟩ := typed_slice Try.underlying27 h
  obtain ⟨xs, h1, h2, h3⟩ := bytes_rows ls hls
  rw [bytes5] at hl
  refine ⟨xs, h2, by omega, fun M v hd => ?_⟩
  simp only [List.cons.injEq, and_true] at e
  subst e
  rw [cells5] at hd
  unfold bytesD rowsD
  rw [h1]
  exact denD_rowsLe hd (fun i hi => by rw [h3 i hi]; rfl)
theorem denL1 {V : Vals} {M : Mem} {x : D} {v : Value} (h : DenD M x v) : DenL V M [.d x] [v] := ⟨rfl, fun j y z hy hz => by
  cases j with
  | zero => simp at hy hz; subst hy; subst hz; exact .d _ _ h
  | succ j => simp at hy⟩
theorem denL2 {V : Vals} {M : Mem} {x y : D} {v w : Value} (h : DenD M x v) (k : DenD M y w) : DenL V M [.d x, .d y] [v, w] := ⟨rfl, fun j a b ha hb => by
  match j with
  | 0 => simp at ha hb; subst ha; subst hb; exact .d _ _ h
  | 1 => simp at ha hb; subst ha; subst hb; exact .d _ _ k
  | j + 2 => simp at ha⟩

end Go.Proofs.Ytlccnbnnlfbfjaa
