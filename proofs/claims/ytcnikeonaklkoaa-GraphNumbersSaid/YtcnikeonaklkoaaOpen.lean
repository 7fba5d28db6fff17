/- Arguments that are read as data: their cells, by their types; what holds behind a call that turns nothing. No program in sight. -/
import Derived.Test.YtcnikeonaklkoaaLits
import Derived.ChangeStays
import Derived.ChangeBook
import Derived.ChangeSame
import Derived.OpenShut
import Derived.SizedLaws
import Derived.WideShapes
import Derived.RowKit
import Derived.Below
import Derived.ChangeOld
namespace Go.Proofs.Ytcnikeonaklkoaa
open Go Go.WideShapes Go.ChangeShapes Go.RowKit
set_option linter.unusedVariables false
set_option linter.unusedSimpArgs false
variable {P : Program}

/-- Cells of plain data of a type. -/
inductive Typed (P : Program) : TypeId → List D → Prop
  | int {t : TypeId} {k : IntKind} {n : Int} (hu : P.underlying t = some (.int k)) (h : k.min ≤ n ∧ n ≤ k.max) : Typed P t [.v (.int k n)]
  | bool {t : TypeId} {b : Bool} (hu : P.underlying t = some .bool) : Typed P t [.v (.bool b)]
  | str {t : TypeId} {s : ByteArray} (hu : P.underlying t = some .string) (hs : s.size ≤ 140737488351232) : Typed P t [.v (.string s)]
  | slice {t e : TypeId} {ls : List (List D)} (hu : P.underlying t = some (.slice e)) (hl : ls.length * P.bytesOf e ≤ 140737488351232) (h : ∀ l ∈ ls, Typed P e l) : Typed P t [.rows (P.cellsOf e) ls.length (fun i => ls.getD i [])]
  | struct {t : TypeId} {fs : Array Field} {l : List D} (hu : P.underlying t = some (.struct fs)) (hl : l.length = P.cellsOf t) (h : ∀ (i : Nat) (f : Field), fs[i]? = some f → Typed P f.type ((l.drop f.offset).take (P.cellsOf f.type))) : Typed P t l
  | array {t e : TypeId} {n : Nat} {l : List D} (hu : P.underlying t = some (.array n e)) (hl : l.length = P.cellsOf t) (h : ∀ i, i < n → Typed P e ((l.drop (i * P.cellsOf e)).take (P.cellsOf e))) : Typed P t l

structure DenLD (M : Mem) (l : List D) (cs : List Value) : Prop where
  len : l.length = cs.length
  at' : ∀ (j : Nat) (x : D) (y : Value), l[j]? = some x → cs[j]? = some y → DenD M x y

theorem cells_read {w : World} {base : Nat} {a : Addr} {n : Nat} {cs : List Value} (h : w.cells? base a n = some cs) : cs.length = n ∧ ∀ j, j < n → w.cell? (a.add j) = cs[j]? := by
  unfold World.cells? at h
  split at h
  · exact ⟨by simpa using mapM_some_length h, fun j hj => mapM_some_get h j j (by simp [hj])⟩
  · cases h

/-- Parts, one behind the other. -/
theorem assemble {M : Mem} {cs : List Value} {T : TypeId → List D → Prop} : ∀ (segs : List (TypeId × Nat)) (off : Nat), off + (segs.map (·.2)).sum ≤ cs.length →
    (∀ (j : Nat) (x : TypeId × Nat), segs[j]? = some x → ∃ l, T x.1 l ∧ DenLD M l ((cs.drop (off + ((segs.take j).map (·.2)).sum)).take x.2)) →
    ∃ L : List D, L.length = (segs.map (·.2)).sum ∧ DenLD M L ((cs.drop off).take (segs.map (·.2)).sum) ∧ ∀ (j : Nat) (x : TypeId × Nat), segs[j]? = some x → T x.1 ((L.drop ((segs.take j).map (·.2)).sum).take x.2)
  | [], off, _, _ => ⟨[], rfl, ⟨by simp, fun j x y hx => by simp at hx⟩, fun j x hx => by simp at hx⟩
  | s :: r, off, hle, h => by
    simp only [List.map_cons, List.sum_cons] at hle
    obtain ⟨l, hl, hd⟩ := h 0 s rfl
    simp only [List.take_zero, List.map_nil, List.sum_nil, Nat.add_zero] at hd
    obtain ⟨L, h1, h2, h3⟩ := assemble (M := M) (cs := cs) (T := T) r (off + s.2) (by omega) (fun j x hx => by
      obtain ⟨l', h', hd'⟩ := h (j + 1) x (by simpa using hx)
      refine ⟨l', h', ?_⟩
      simp only [List.take_succ_cons, List.map_cons, List.sum_cons] at hd'
      rwa [show off + (s.2 + ((r.take j).map (·.2)).sum) = off + s.2 + ((r.take j).map (·.2)).sum by omega] at hd')
    have hll : l.length = s.2 := by have := hd.len; simp at this; omega
    refine ⟨l ++ L, by simp [hll, h1], ⟨by simp [hll, h1]; omega, fun j x y hx hy => ?_⟩, fun j x hx => ?_⟩
    · simp only [List.map_cons, List.sum_cons] at hy
      by_cases hj : j < l.length
      · rw [List.getElem?_append_left hj] at hx
        refine hd.at' j x y hx ?_
        rw [List.getElem?_take_of_lt (by omega)] at hy ⊢
        exact hy
      · rw [List.getElem?_append_right (by omega)] at hx
        have hjL : j - l.length < L.length := (List.getElem?_eq_some_iff.1 hx).1
        refine h2.at' (j - l.length) x y hx ?_
        rw [List.getElem?_take_of_lt (by omega)] at hy ⊢
        rw [List.getElem?_drop] at hy ⊢
        rw [← hy]
        congr 1
        omega
    · cases j with
      | zero =>
        simp at hx
        subst hx
        simp only [List.take_zero, List.map_nil, List.sum_nil, List.drop_zero]
        rw [← hll, List.take_left']
        · exact hl
        · rfl
      | succ j =>
        simp only [List.getElem?_cons_succ] at hx
        simp only [List.take_succ_cons, List.map_cons, List.sum_cons]
        have e : (l ++ L).drop (s.2 + ((r.take j).map (·.2)).sum) = L.drop ((r.take j).map (·.2)).sum := by
          rw [← hll, ← List.drop_drop, List.drop_left']
          rfl
        rw [e]
        exact h3 j x hx

/-- A list of types that is closed: each one plain, its parts among them. -/
def plainB (P : Program) (ts : List TypeId) : Bool := ts.all fun t => match P.underlying t with
  | some (.int _) | some .bool | some .string => true
  | some (.slice e) => memB e ts && Nat.blt 0 (P.cellsOf e)
  | some (.struct fs) => fs.toList.all fun f => memB f.type ts
  | some (.array _ e) => memB e ts
  | _ => false

/-- All of memory as it stands. -/
def memOf (w : World) : Mem := fun b o => w.cell? ⟨b, o, none⟩

theorem weightsAll_sub {H : Type} {e : TypeId} : ∀ {l : List (DataW H)} {d : DataW H}, d ∈ l → ∀ n ∈ d.weights P e, n ∈ DataW.weightsAll P e l
  | x :: r, d, hd, n, hn => by
    simp only [DataW.weightsAll, List.mem_append]
    rcases List.mem_cons.1 hd with rfl | hd
    · exact .inl hn
    · exact .inr (weightsAll_sub hd n hn)
theorem weightsEach_sub {H : Type} : ∀ {ts : List TypeId} {ds : List (DataW H)} {j : Nat} {t : TypeId} {d : DataW H}, ts[j]? = some t → ds[j]? = some d → ∀ n ∈ d.weights P t, n ∈ DataW.weightsEach P ts ds :=
  fun ht hd => DataW.weights_mem_each ht hd

theorem wf_int {k : IntKind} {n : Int} (h : (Lit.int k n).wf = true) : k.min ≤ n ∧ n ≤ k.max := by
  simpa [Lit.wf] using h

theorem typed_of {H : Type} {enc : TypeId × Value → H} {w : World} {base : Nat} {spare : Nat → Bool} {held : Bool} {ts : List TypeId} (hp : plainB P ts = true) (hl : laidOutB P = true) (hlt : ∀ t ∈ ts, t < P.types.size) :
    ∀ (fuel : Nat) (t : TypeId) (cs : List Value) (x : DataW H × List MemPlace), t ∈ ts → DataW.trod enc P w base spare held fuel t cs = some x → (∀ n ∈ x.1.weights P t, n ≤ reachBytes) →
      ∃ l, Typed P t l ∧ DenLD (memOf w) l cs := by
  have hpl : ∀ t ∈ ts, (match P.underlying t with
      | some (.int _) | some .bool | some .string => true
      | some (.slice e) => memB e ts && Nat.blt 0 (P.cellsOf e)
      | some (.struct fs) => fs.toList.all fun f => memB f.type ts
      | some (.array _ e) => memB e ts
      | _ => false) = true := List.all_eq_true.1 hp
  have one : ∀ {x : D} {y : Value}, DenD (memOf w) x y → DenLD (memOf w) [x] [y] := fun h => ⟨rfl, fun j x' y' hx hy => by
    cases j with
    | zero => simp at hx hy; subst hx; subst hy; exact h
    | succ j => simp at hx⟩
  intro fuel
  induction fuel with
  | zero => intro t cs x _ h; simp [DataW.trod] at h
  | succ fuel ih =>
    intro t cs x ht h hw
    have hpt := hpl t ht
    cases hu : P.underlying t with
    | none => rw [hu] at hpt; cases hpt
    | some k =>
      rw [hu] at hpt
      cases k with
      | int k =>
        obtain ⟨n, rfl, _, hwf⟩ := DataW.trod_int hu h
        exact ⟨_, .int hu (wf_int hwf), one (.v _)⟩
      | bool =>
        obtain ⟨b, rfl, _⟩ := DataW.trod_bool hu h
        exact ⟨_, .bool hu, one (.v _)⟩
      | string =>
        obtain ⟨s, rfl, rfl, _⟩ := DataW.trod_string hu h
        refine ⟨_, .str hu ?_, one (.v _)⟩
        have := hw s.data.toList.length (by simp [DataW.weights])
        have e : s.data.toList.length = s.size := by rw [Array.length_toList]; rfl
        rw [e] at this
        exact this
      | slice e =>
        simp only [Bool.and_eq_true] at hpt
        have he : e ∈ ts := memB_iff.1 hpt.1
        have hby : 0 < P.cellsOf e := Nat.le_of_ble_eq_true hpt.2
        rcases DataW.trod_slice hu h with ⟨rfl, rfl⟩ | ⟨a, len, cap, elems, rest, n, hn, rfl, rfl, hba, hlc, hcm, hel, hat, _, _⟩
        · exact ⟨_, .slice (ls := []) hu (by simp) (by simp), one (.emp _ _ _ _)⟩
        · have hfn : fuel = n := by omega
          subst hfn
          have hwm : ∀ m ∈ (elems.length + rest.length) * P.bytesOf e :: (DataW.weightsAll P e (elems.map (·.1)) ++ DataW.weightsAll P e (rest.map (·.1))), m ≤ reachBytes := by
            intro m hm
            apply hw m
            simp only [DataW.weights, hu]
            simpa using hm
          have hread : ∀ i, i < len → ∃ l, Typed P e l ∧ ∃ cs', w.cells? base (a.add (i * P.cellsOf e)) (P.cellsOf e) = some cs' ∧ DenLD (memOf w) l cs' := fun i hi => by
            have h1 := hat i hi
            have hie : i < elems.length := by omega
            rw [List.getElem?_eq_getElem hie] at h1
            obtain ⟨cs', hc', ht'⟩ := Option.bind_eq_some_iff.1 h1
            obtain ⟨l, hl1, hl2⟩ := ih e cs' elems[i] he ht' (fun m hm => hwm m (by
              simp only [List.mem_cons, List.mem_append]
              exact .inr (.inl (weightsAll_sub (List.mem_map.2 ⟨elems[i], List.getElem_mem hie, rfl⟩) m hm))))
            exact ⟨l, hl1, cs', hc', hl2⟩
          -- one list of rows
          have hch : ∃ ls : List (List D), ls.length = len ∧ ∀ i, i < len → Typed P e (ls.getD i []) ∧ ∃ cs', w.cells? base (a.add (i * P.cellsOf e)) (P.cellsOf e) = some cs' ∧ DenLD (memOf w) (ls.getD i []) cs' := by
            have : ∀ m, m ≤ len → ∃ ls : List (List D), ls.length = m ∧ ∀ i, i < m → Typed P e (ls.getD i []) ∧ ∃ cs', w.cells? base (a.add (i * P.cellsOf e)) (P.cellsOf e) = some cs' ∧ DenLD (memOf w) (ls.getD i []) cs' := by
              intro m
              induction m with
              | zero => intro _; exact ⟨[], rfl, fun i hi => by omega⟩
              | succ m ihm =>
                intro hm
                obtain ⟨ls, h1, h2⟩ := ihm (by omega)
                obtain ⟨l, hl1, hl2⟩ := hread m (by omega)
                refine ⟨ls ++ [l], by simp [h1], fun i hi => ?_⟩
                by_cases him : i < m
                · have e1 : (ls ++ [l]).getD i [] = ls.getD i [] := by
                    rw [List.getD_eq_getElem?_getD, List.getD_eq_getElem?_getD, List.getElem?_append_left (by omega)]
                  rw [e1]; exact h2 i him
                · have him' : i = m := by omega
                  subst him'
                  have e1 : (ls ++ [l]).getD i [] = l := by
                    rw [List.getD_eq_getElem?_getD, List.getElem?_append_right (by omega), h1]; simp
                  rw [e1]; exact ⟨hl1, hl2⟩
            exact this len (Nat.le_refl _)
          obtain ⟨ls, hls, hall⟩ := hch
          refine ⟨_, .slice (ls := ls) hu ?_ (fun l hlm => ?_), one ?_⟩
          · have h1 := hwm ((elems.length + rest.length) * P.bytesOf e) (by simp)
            have h2 : ls.length * P.bytesOf e ≤ (elems.length + rest.length) * P.bytesOf e := Nat.mul_le_mul_right _ (by omega)
            have h3 : reachBytes = 140737488351232 + 4096 - 4096 := rfl
            omega
          · obtain ⟨i, hi, rfl⟩ := List.getElem_of_mem hlm
            have := (hall i (by omega)).1
            rwa [List.getD_eq_getElem?_getD, List.getElem?_eq_getElem hi] at this
          · rw [hls]
            by_cases h0 : len = 0
            · rw [h0]; exact .emp _ _ _ _
            · have hsp : a.spot = none := by
                obtain ⟨_, cs', hc', hd⟩ := hall 0 (by omega)
                have h1 := (cells_read hc').2 0 (by omega)
                have h2 : 0 < cs'.length := by rw [(cells_read hc').1]; omega
                rw [List.getElem?_eq_getElem h2] at h1
                cases hs : a.spot with
                | none => rfl
                | some sp =>
                  exfalso
                  have e1 : (a.add (0 * P.cellsOf e)).add 0 = a := by simp [Addr.add]
                  rw [e1] at h1
                  unfold World.cell? at h1
                  split at h1
                  · simp [hs] at h1
                  · cases h1
              obtain ⟨ab, ao, asp⟩ := a
              simp only at hsp
              subst hsp
              refine .rows _ _ _ ab ao cap hlc (fun i hi => ?_) (fun i j => ((w.cell? ⟨ab, ao + (i * P.cellsOf e + j), none⟩).getD .nilFunc)) (fun i j hi hj => ?_) (fun i j x hi hx => ?_)
              · obtain ⟨_, cs', hc', hd⟩ := hall i hi
                rw [hd.len, (cells_read hc').1]
              · obtain ⟨_, cs', hc', hd⟩ := hall i hi
                obtain ⟨hc1, hc2⟩ := cells_read hc'
                have h1 := hc2 j hj
                rw [addr_add, addr_add, Nat.add_assoc, List.getElem?_eq_getElem (by omega)] at h1
                show w.cell? _ = some ((w.cell? _).getD _)
                rw [h1]; rfl
              · obtain ⟨_, cs', hc', hd⟩ := hall i hi
                obtain ⟨hc1, hc2⟩ := cells_read hc'
                have hj : j < P.cellsOf e := by have := (List.getElem?_eq_some_iff.1 hx).1; rw [hd.len, hc1] at this; exact this
                have h1 := hc2 j hj
                rw [addr_add, addr_add, Nat.add_assoc, List.getElem?_eq_getElem (by omega)] at h1
                rw [h1]
                exact hd.at' j x _ hx (List.getElem?_eq_getElem _)
      | struct fs =>
        have hmem : ∀ f ∈ fs.toList, f.type ∈ ts := fun f hf => memB_iff.1 (List.all_eq_true.1 hpt f hf)
        obtain ⟨xs, n, hn, rfl, hcl, hxl, hat⟩ := DataW.trod_struct hu h
        have hfn : fuel = n := by omega
        subst hfn
        obtain ⟨_, hsum, hoff⟩ := kid_struct hl (hlt t ht) hu
        have hsegs : ∀ j : Nat, ((fs.toList.map fun f => (f.type, P.cellsOf f.type)).take j).map (·.2) = (fs.toList.take j).map fun f => P.cellsOf f.type := fun j => by
          rw [← List.map_take, List.map_map]; rfl
        have hmapall : ((fs.toList.map fun f => (f.type, P.cellsOf f.type)).map (·.2)) = fs.toList.map fun f => P.cellsOf f.type := by rw [List.map_map]; rfl
        obtain ⟨L, h1, h2, h3⟩ := assemble (M := memOf w) (cs := cs) (T := Typed P) (fs.toList.map fun f => (f.type, P.cellsOf f.type)) 0 (by rw [hmapall, ← hsum, hcl]; omega) (fun j x hx => by
          simp only [List.getElem?_map, Option.map_eq_some_iff] at hx
          obtain ⟨f, hf, rfl⟩ := hx
          have hf' : fs[j]? = some f := by simpa using hf
          have hjx : j < xs.length := by rw [hxl]; exact (Array.getElem?_eq_some_iff.1 hf').1
          have h4 := hat j f hf'
          rw [List.getElem?_eq_getElem hjx] at h4
          obtain ⟨l, hl1, hl2⟩ := ih f.type _ xs[j] (hmem f (List.mem_of_getElem? hf)) h4 (fun m hm => hw m (by
            simp only [DataW.weights, hu]
            exact weightsEach_sub (j := j) (t := f.type) (d := xs[j].1) (by simp [hf']) (by simp [hjx]) m hm))
          refine ⟨l, hl1, ?_⟩
          rw [hsegs, Nat.zero_add, ← hoff j f hf]
          exact hl2)
        rw [hmapall, ← hsum] at h1 h2
        refine ⟨L, .struct hu h1 (fun j f hf => ?_), ?_⟩
        · have hf' : fs.toList[j]? = some f := by simpa using hf
          have := h3 j (f.type, P.cellsOf f.type) (by simp only [List.getElem?_map, hf']; rfl)
          rw [hsegs, ← hoff j f hf'] at this
          exact this
        · rw [List.drop_zero, ← hcl, List.take_length] at h2
          exact h2
      | array n e =>
        have he : e ∈ ts := memB_iff.1 hpt
        obtain ⟨xs, m, hn, rfl, hcl, hxl, hat⟩ := DataW.trod_array hu h
        have hfn : fuel = m := by omega
        subst hfn
        obtain ⟨_, hsum⟩ := kid_array hl (hlt t ht) hu
        have hall : ∀ k : Nat, k ≤ n → (((List.replicate n (e, P.cellsOf e)).take k).map (·.2)).sum = k * P.cellsOf e := fun k hk => by
          rw [List.take_replicate, Nat.min_eq_left hk, List.map_replicate, List.sum_replicate_nat]
        have hfull : ((List.replicate n (e, P.cellsOf e)).map (·.2)).sum = n * P.cellsOf e := by rw [List.map_replicate, List.sum_replicate_nat]
        obtain ⟨L, h1, h2, h3⟩ := assemble (M := memOf w) (cs := cs) (T := Typed P) (List.replicate n (e, P.cellsOf e)) 0 (by rw [hfull, hcl, hsum]; omega) (fun j x hx => by
          rw [List.getElem?_replicate] at hx
          have hj : j < n := by
            rcases Nat.lt_or_ge j n with h | h
            · exact h
            · rw [if_neg (by omega)] at hx; cases hx
          rw [if_pos hj, Option.some.injEq] at hx
          subst hx
          have hjx : j < xs.length := by omega
          have h4 := hat j hj
          rw [List.getElem?_eq_getElem hjx] at h4
          obtain ⟨l, hl1, hl2⟩ := ih e _ xs[j] he h4 (fun m hm => hw m (by
            simp only [DataW.weights, hu]
            exact weightsAll_sub (List.mem_map.2 ⟨xs[j], List.getElem_mem hjx, rfl⟩) m hm))
          refine ⟨l, hl1, ?_⟩
          rw [hall j (by omega), Nat.zero_add]
          exact hl2)
        rw [hfull, ← hsum] at h1 h2
        refine ⟨L, .array hu h1 (fun j hj => ?_), ?_⟩
        · have := h3 j (e, P.cellsOf e) (by rw [List.getElem?_replicate, if_pos hj])
          rwa [hall j (by omega)] at this
        · rw [List.drop_zero, ← hcl, List.take_length] at h2
          exact h2
      | _ => cases hpt

/-! Arguments. -/
theorem open_agg {H : Type} {enc : TypeId × Value → H} {w : World} {b0 base : Nat} {spare : Nat → Bool} {held : Bool} {ts : List TypeId} (hp : plainB P ts = true) (hl : laidOutB P = true) (hlt : ∀ t ∈ ts, t < P.types.size)
    {t : TypeId} {fs : Array Field} {v : Value} {d : DataW H} {ps : List MemPlace} (ht : t ∈ ts) (hu : P.underlying t = some (.struct fs)) (hval : Value.okWide P w .any b0 t v) (hd : DataW.Trod enc P w base spare held t v d ps) (hw : ∀ n ∈ d.weights P t, n ≤ reachBytes) :
    ∃ l, Typed P t l ∧ DenD (memOf w) (.agg l) v := by
  obtain ⟨cs, rfl, _⟩ := okWide_struct hu hval
  obtain ⟨fuel, hf⟩ := hd
  obtain ⟨l, h1, h2⟩ := typed_of hp hl hlt fuel t _ _ ht hf hw
  refine ⟨l, h1, ?_⟩
  have := DenD.agg (M := memOf w) l cs.toList (by have := h2.len; simpa [Value.cells] using this) (fun j x y hx hy => h2.at' j x y hx (by simpa [Value.cells] using hy))
  simpa using this
theorem open_arr {H : Type} {enc : TypeId × Value → H} {w : World} {b0 base : Nat} {spare : Nat → Bool} {held : Bool} {ts : List TypeId} (hp : plainB P ts = true) (hl : laidOutB P = true) (hlt : ∀ t ∈ ts, t < P.types.size)
    {t : TypeId} {n : Nat} {e : TypeId} {v : Value} {d : DataW H} {ps : List MemPlace} (ht : t ∈ ts) (hu : P.underlying t = some (.array n e)) (hval : Value.okWide P w .any b0 t v) (hd : DataW.Trod enc P w base spare held t v d ps) (hw : ∀ n ∈ d.weights P t, n ≤ reachBytes) :
    ∃ l, Typed P t l ∧ DenD (memOf w) (.agg l) v := by
  obtain ⟨cs, rfl⟩ : ∃ cs, v = .agg cs := by
    unfold Value.okWide at hval
    rw [hu] at hval
    obtain ⟨cs, h, _⟩ := hval
    exact ⟨cs, h⟩
  obtain ⟨fuel, hf⟩ := hd
  obtain ⟨l, h1, h2⟩ := typed_of hp hl hlt fuel t _ _ ht hf hw
  refine ⟨l, h1, ?_⟩
  have := DenD.agg (M := memOf w) l cs.toList (by have := h2.len; simpa [Value.cells] using this) (fun j x y hx hy => h2.at' j x y hx (by simpa [Value.cells] using hy))
  simpa using this
theorem open_one {H : Type} {enc : TypeId × Value → H} {w : World} {b0 base : Nat} {spare : Nat → Bool} {held : Bool} {ts : List TypeId} (hp : plainB P ts = true) (hl : laidOutB P = true) (hlt : ∀ t ∈ ts, t < P.types.size)
    {t : TypeId} {v : Value} {d : DataW H} {ps : List MemPlace} (ht : t ∈ ts) (hu : (∃ k, P.underlying t = some (.int k)) ∨ P.underlying t = some .bool ∨ P.underlying t = some .string ∨ ∃ e, P.underlying t = some (.slice e)) (hval : Value.okWide P w .any b0 t v) (hd : DataW.Trod enc P w base spare held t v d ps)
    (hw : ∀ n ∈ d.weights P t, n ≤ reachBytes) : ∃ x, Typed P t [x] ∧ DenD (memOf w) x v := by
  have hc : v.cells = #[v] := by
    rcases hu with ⟨k, hu⟩ | hu | hu | ⟨e, hu⟩
    · obtain ⟨n, rfl⟩ := okWide_int hu hval; rfl
    · obtain ⟨n, rfl⟩ := okWide_bool hu hval; rfl
    · obtain ⟨n, rfl⟩ := okWide_string hu hval; rfl
    · obtain ⟨a, b, c, rfl⟩ := okWide_slice hu hval; rfl
  obtain ⟨fuel, hf⟩ := hd
  obtain ⟨l, h1, h2⟩ := typed_of hp hl hlt fuel t _ _ ht hf hw
  rw [hc] at h2
  have hlen := h2.len
  match l, hlen with
  | [x], _ => exact ⟨x, h1, h2.at' 0 x v rfl rfl⟩

theorem typed_int {t : TypeId} {k : IntKind} {l : List D} (hu : P.underlying t = some (.int k)) (h : Typed P t l) : ∃ n, l = [.v (.int k n)] ∧ k.min ≤ n ∧ n ≤ k.max := by
  cases h with
  | int hu' h => rw [hu] at hu'; cases hu'; exact ⟨_, rfl, h⟩
  | bool hu' => rw [hu] at hu'; cases hu'
  | str hu' => rw [hu] at hu'; cases hu'
  | slice hu' => rw [hu] at hu'; cases hu'
  | struct hu' => rw [hu] at hu'; cases hu'
  | array hu' => rw [hu] at hu'; cases hu'
theorem typed_bool {t : TypeId} {l : List D} (hu : P.underlying t = some .bool) (h : Typed P t l) : ∃ b, l = [.v (.bool b)] := by
  cases h with
  | int hu' h => rw [hu] at hu'; cases hu'
  | bool hu' => exact ⟨_, rfl⟩
  | str hu' => rw [hu] at hu'; cases hu'
  | slice hu' => rw [hu] at hu'; cases hu'
  | struct hu' => rw [hu] at hu'; cases hu'
  | array hu' => rw [hu] at hu'; cases hu'
theorem typed_str {t : TypeId} {l : List D} (hu : P.underlying t = some .string) (h : Typed P t l) : ∃ s : ByteArray, l = [.v (.string s)] ∧ s.size ≤ 140737488351232 := by
  cases h with
  | int hu' h => rw [hu] at hu'; cases hu'
  | bool hu' => rw [hu] at hu'; cases hu'
  | str hu' h => exact ⟨_, rfl, h⟩
  | slice hu' => rw [hu] at hu'; cases hu'
  | struct hu' => rw [hu] at hu'; cases hu'
  | array hu' => rw [hu] at hu'; cases hu'
theorem typed_slice {t e : TypeId} {l : List D} (hu : P.underlying t = some (.slice e)) (h : Typed P t l) : ∃ ls : List (List D), l = [.rows (P.cellsOf e) ls.length (fun i => ls.getD i [])] ∧ ls.length * P.bytesOf e ≤ 140737488351232 ∧ ∀ x ∈ ls, Typed P e x := by
  cases h with
  | int hu' h => rw [hu] at hu'; cases hu'
  | bool hu' => rw [hu] at hu'; cases hu'
  | str hu' => rw [hu] at hu'; cases hu'
  | slice hu' hl h => rw [hu] at hu'; cases hu'; exact ⟨_, rfl, hl, h⟩
  | struct hu' => rw [hu] at hu'; cases hu'
  | array hu' => rw [hu] at hu'; cases hu'
theorem typed_struct {t : TypeId} {fs : Array Field} {l : List D} (hu : P.underlying t = some (.struct fs)) (h : Typed P t l) : l.length = P.cellsOf t ∧ ∀ (i : Nat) (f : Field), fs[i]? = some f → Typed P f.type ((l.drop f.offset).take (P.cellsOf f.type)) := by
  cases h with
  | int hu' h => rw [hu] at hu'; cases hu'
  | bool hu' => rw [hu] at hu'; cases hu'
  | str hu' => rw [hu] at hu'; cases hu'
  | slice hu' => rw [hu] at hu'; cases hu'
  | struct hu' hl h => rw [hu] at hu'; cases hu'; exact ⟨hl, h⟩
  | array hu' => rw [hu] at hu'; cases hu'
theorem typed_array {t e : TypeId} {n : Nat} {l : List D} (hu : P.underlying t = some (.array n e)) (h : Typed P t l) : l.length = P.cellsOf t ∧ ∀ i, i < n → Typed P e ((l.drop (i * P.cellsOf e)).take (P.cellsOf e)) := by
  cases h with
  | int hu' h => rw [hu] at hu'; cases hu'
  | bool hu' => rw [hu] at hu'; cases hu'
  | str hu' => rw [hu] at hu'; cases hu'
  | slice hu' => rw [hu] at hu'; cases hu'
  | struct hu' => rw [hu] at hu'; cases hu'
  | array hu' hl h => rw [hu] at hu'; cases hu'; exact ⟨hl, h⟩

/-! Behind the call. -/
theorem post_of_kept {H : Type} {enc : TypeId × Value → H} {f : Func} {s : ChangeSpec} {apart fresh handsOn again : Bool} {W W' : World} {args : Array Value} {v : Value} {ds gs : List (DataW H)} {before pa pv : List MemPlace}
    (hW : DataW.Whole enc P f.params.toList s.vars apart W args.toList ds gs before)
    (hres : ∀ (b : Nat) (sp : Nat → Bool) (hd : Bool), DataW.TrodAll enc P W' b sp hd f.resultTypes.toList (v.resultList f.resultTypes.size) (s.fn H (ds ++ gs)).results [])
    (hargs : ∀ sp : Nat → Bool, (∀ p ∈ before, sp p.block = true) → DataW.TrodAll enc P W' 0 sp true f.params.toList args.toList (s.fn H (ds ++ gs)).args pa)
    (hvars : ∀ sp : Nat → Bool, (∀ p ∈ before, sp p.block = true) → DataW.TrodVars enc P W' sp s.vars (s.fn H (ds ++ gs)).vars pv)
    (hps : before = pa ++ pv) (hk : W.keptBut W' (· ∈ before)) (hfz : ∀ a : Addr, a.block < W.heap.size → W'.frozen? a = W.frozen? a)
    (hok : ∀ (j : Nat) (t : TypeId) (r : Value), f.resultTypes[j]? = some t → (v.resultList f.resultTypes.size)[j]? = some r → Value.okWide P W' .any 0 t r) :
    s.post enc P f apart fresh handsOn again W args v W' := by
  have hold : ∀ p ∈ before, (fun b => decide (b < W.heap.size)) p.block = true := fun p hp => by simpa using hW.lt p hp
  refine ⟨ds, gs, before, [], pa, pv, hW, hres _ _ _, hargs _ hold, hvars _ hold, World.keptBut_mono (fun p hp => ⟨hp, ?_⟩) hk, fun _ => ?_⟩
  · rw [hps, List.mem_append] at hp
    exact Or.inr hp
  · have hlt := hW.lt
    obtain ⟨_, _, _, _, _, hz, hn⟩ := hW
    refine ⟨hok, _, _, ([] ++ pa) ++ pv, ⟨[] ++ pa, pv, trodAll_append (hargs _ (fun _ _ => rfl)) (hres _ _ _), hvars _ (fun _ _ => rfl), rfl, ?_, ?_⟩, ?_⟩
    · intro b off hp
      have hin : MemPlace.cell b off ∈ before := by rw [hps]; simpa using hp
      rw [hfz _ (hlt _ hin)]
      exact hz b off hin
    · intro ha
      have := hn ha
      rw [hps] at this
      simpa using this
    · intro p hp _
      rw [hps]
      simpa using hp
theorem trodAll_stays {H : Type} {enc : TypeId × Value → H} (hl : laidOutB P = true) {W W' : World} (hb : ∀ b, b < W.heap.size → W'.heap[b]? = W.heap[b]?) {sp : Nat → Bool} :
    ∀ {ts : List TypeId} {vs : List Value} {ds : List (DataW H)} {ps : List MemPlace}, (∀ t ∈ ts, P.readableRec t = true ∧ t < P.types.size) → (∀ p ∈ ps, p.block < W.heap.size) → (∀ p ∈ ps, sp p.block = true) →
      DataW.TrodAll enc P W 0 (fun _ => true) true ts vs ds ps → DataW.TrodAll enc P W' 0 sp true ts vs ds ps
  | [], [], [], ps, _, _, _, h => h
  | t :: ts, v :: vs, d :: ds, ps, ht, hlt, hsp, ⟨p, q, ⟨fuel, h1⟩, h2, e⟩ => by
    subst e
    obtain ⟨hr, hsz⟩ := ht t (by simp)
    refine ⟨p, q, ⟨fuel, DataW.trod_stays (kids_book hl hr) (book_sized hr) (fun h => by cases h) ⟨hsz, book_self t⟩ h1 (fun x hx => ?_) (fun x hx => hsp x (by simp [hx]))⟩, trodAll_stays hl hb (fun t ht' => ht t (by simp [ht'])) (fun x hx => hlt x (by simp [hx])) (fun x hx => hsp x (by simp [hx])) h2, rfl⟩
    have hx' := hlt x (by simp [hx])
    cases x with
    | cell b o => exact World.cell?_of_block (w := W) (hb b hx')
    | map b => exact hb b hx'
  | [], _ :: _, _, _, _, _, _, h => h.elim
  | [], [], _ :: _, _, _, _, _, h => h.elim
  | _ :: _, [], _, _, _, _, _, h => h.elim
  | _ :: _, _ :: _, [], _, _, _, _, h => h.elim

/-- **From a contract to what a row says of the call**: a law that turns nothing and answers true. -/
theorem law_post {H : Type} {enc : TypeId × Value → H} {fid : FuncId} {f : Func} {s : ChangeSpec} {apart fresh handsOn again : Bool} {W : World} {args : Array Value} {ds gs : List (DataW H)} {before : List MemPlace} {avs : List AV} {tb : TypeId}
    (hl : laidOutB P = true) (hW : DataW.Whole enc P f.params.toList s.vars apart W args.toList ds gs before) (hv : s.vars = []) (hps : ∀ t ∈ f.params.toList, P.readableRec t = true ∧ t < P.types.size)
    (hrt : f.resultTypes = #[tb]) (hub : P.underlying tb = some .bool) (hs : s.fn H (ds ++ gs) = { results := [.lit (.bool true)], args := ds })
    (hfs : FnSpec P fid avs [] (bv true) [] []) (hargs : DenL ⟨fun _ => 0, fun _ => none⟩ (memOf W) avs args.toList) :
    Calls P fid args W fun e W' => ∃ v, e = .returned v ∧ s.post enc P f apart fresh handsOn again W args v W' := by
  have hw : RepW (.of W [] (memOf W) ⟨fun _ => 0, fun _ => none⟩ [] 0) [] ⟨fun _ => 0, fun _ => none⟩ (memOf W) W :=
    { blks := fun l B e => by simp [St.get] at e
      inj := fun l l' a => by obtain ⟨⟨B, e⟩, _⟩ := a; simp [St.get] at e
      sep := fun l a => by obtain ⟨⟨B, e⟩, _⟩ := a; simp [St.get] at e
      fresh := fun l a => by obtain ⟨⟨B, e⟩, _⟩ := a; simp [St.get] at e
      bd := fun l a => by obtain ⟨⟨B, e⟩, _⟩ := a; simp [St.get] at e
      mem := fun b o v h => h, mle := Mem.le_refl _, mnew := fun b o h => .inl h, keep := fun l hl => by cases hl
      frame := ⟨rfl, rfl, rfl, Nat.le_refl _, fun _ _ _ => rfl⟩ }
  have := hfs _ _ W [] args.toList hw hargs
  rw [Array.toArray_toList] at this
  refine this.mono ?_
  rintro e W' ⟨v, V', M', rfl, hden, hw'⟩
  have hvt : v = .bool true := den_v hden
  subst hvt
  refine ⟨_, rfl, ?_⟩
  have hblk : ∀ b, b < W.heap.size → W'.heap[b]? = W.heap[b]? := fun b hb => hw'.frame.block b hb (by simp)
  have hW' := hW
  obtain ⟨p, q, hA, hV, hpq, hfz, hnd⟩ := hW'
  have hq : gs = [] ∧ q = [] := by
    rw [hv] at hV
    cases gs with
    | nil => exact ⟨rfl, hV⟩
    | cons g gs => exact hV.elim
  obtain ⟨rfl, rfl⟩ := hq
  rw [List.append_nil] at hpq
  subst hpq
  have hlt := hW.lt
  refine post_of_kept (pa := before) (pv := []) hW (fun b sp hd => ?_) (fun sp hsp => ?_) (fun sp _ => ?_) (by simp) ?_ (fun a ha => ?_) ?_
  · rw [hs, hrt]
    exact trodAll_cons_mk (shut_bool hub true) trodAll_mk0
  · rw [hs]
    exact trodAll_stays hl hblk hps hlt hsp hA
  · rw [hs, hv]; rfl
  · refine ⟨hw'.frame.os, hw'.frame.output, fun i hi => ?_⟩
    rw [hblk i hi]
    cases W.heap[i]? with
    | none => rfl
    | some o => cases o <;> simp
  · unfold World.frozen?
    rw [hblk _ ha]
  · exact ok_one hrt rfl (okWide_bool_mk hub true)

end Go.Proofs.Ytcnikeonaklkoaa
