import Derived.Test.YtmdfamnnnoieaaaDoorPkQ
import Derived.Test.YtmdfamnnnoieaaaDoorPkH
import Derived.Test.YtmdfamnnnoieaaaDoorTie
import Derived.ProofKit
import Derived.LaidMore
import Derived.OpenShut
import Derived.Stop.Joined
/- Pools, lists and digests that come in as arguments; the package-level variables. -/
namespace Go.Proofs.YtmdfamnnnoieaaaDoor
open Go
set_option linter.unusedVariables false
set_option linter.unusedSimpArgs false
set_option maxRecDepth 10000

theorem own : ownKnob Tryd.prog.godebug = none := by kernel_rfl
theorem laid : laidOutB Tryd.prog = true := by kernel_rfl
def plains : List TypeId := [24, 22, 49, 25, 3, 27, 5, 41, 46]
theorem plain : plainB Tryd.prog plains = true := by kernel_rfl
theorem rowed : (plains.all fun t => decide (t < Tryd.prog.types.size)) = true := by kernel_rfl
theorem inTable : ∀ t ∈ plains, t < Tryd.prog.types.size := fun t ht => by simpa using List.all_eq_true.1 rowed t ht
theorem reads : (plains.all fun t => Tryd.prog.readableRec t) = true := by kernel_rfl
theorem readable {ts : List TypeId} (h : ts.all (fun t => memB t plains) = true) : ∀ t ∈ ts, Tryd.prog.readableRec t = true ∧ t < Tryd.prog.types.size := fun t ht =>
  have hm : t ∈ plains := memB_iff.1 (List.all_eq_true.1 h t ht)
  ⟨List.all_eq_true.1 reads t hm, inTable t hm⟩
theorem bytes3 : Tryd.prog.bytesOf 3 = 8 := by kernel_rfl
theorem bytes27 : Tryd.prog.bytesOf 27 = 32 := by kernel_rfl
theorem bytes25 : Tryd.prog.bytesOf 25 = 24 := by kernel_rfl
theorem cells3 : Tryd.prog.cellsOf 3 = 1 := by kernel_rfl
theorem cells5 : Tryd.prog.cellsOf 5 = 1 := by kernel_rfl
theorem cells22 : Tryd.prog.cellsOf 22 = 1 := by kernel_rfl
theorem cells24 : Tryd.prog.cellsOf 24 = 1 := by kernel_rfl
theorem cells25 : Tryd.prog.cellsOf 25 = 1 := by kernel_rfl
theorem cells27 : Tryd.prog.cellsOf 27 = 32 := by kernel_rfl
theorem cells49 : Tryd.prog.cellsOf 49 = 33 := by kernel_rfl

def I64 (x : Int) : Prop := -9223372036854775808 ≤ x ∧ x ≤ 9223372036854775807
theorem i64_of {m : Int} (h : IntKind.min .i64 ≤ m ∧ m ≤ IntKind.max .i64) : I64 m := by
  simpa [I64, IntKind.min, IntKind.max, IntKind.signed, IntKind.bits] using h
/-- What says more. -/
abbrev DLe (x y : D) : Prop := ∀ M v, DenD M x v → DenD M y v
theorem rows_le {n len : Nat} {g g' : Nat → List D} (hl : ∀ i, i < len → (g' i).length = n) (h : ∀ (i j : Nat) (x' : D), i < len → (g' i)[j]? = some x' → ∃ x, (g i)[j]? = some x ∧ DLe x x') : DLe (.rows n len g) (.rows n len g') := by
  intro M v hd
  cases hd with
  | emp => exact .emp _ _ _ _
  | rows _ _ _ b o cap hc hl' c hm hx =>
    refine .rows _ _ _ b o cap hc hl c hm fun i j x' hi hx' => ?_
    obtain ⟨x, h1, h2⟩ := h i j x' hi hx'
    exact h2 M _ (hx i j x hi h1)
theorem ints_rows : ∀ (ls : List (List D)), (∀ l ∈ ls, Typed Tryd.prog 3 l) → ∃ xs : List Int, xs.length = ls.length ∧ (∀ x ∈ xs, I64 x) ∧ ∀ i, i < ls.length → ls.getD i [] = [.v (.int .i64 (xs.getD i 0))]
  | [], _ => ⟨[], rfl, (fun x hx => by cases hx), fun i hi => by simp at hi⟩
  | l :: r, h => by
    obtain ⟨n, rfl, h1, h2⟩ := typed_int Tryd.underlying3 (h l (by simp))
    obtain ⟨xs, g1, g2, g3⟩ := ints_rows r (fun x hx => h x (by simp [hx]))
    refine ⟨n :: xs, by simp [g1], fun x hx => ?_, fun i hi => ?_⟩
    · rcases List.mem_cons.1 hx with rfl | hx
      · exact i64_of ⟨h1, h2⟩
      · exact g2 x hx
    · cases i with
      | zero => rfl
      | succ i => simpa using g3 i (by simpa using hi)
theorem ints_of {x : D} (h : Typed Tryd.prog 25 [x]) : ∃ xs : List Int, (∀ y ∈ xs, I64 y) ∧ xs.length ≤ 17592186044416 ∧ DLe x (intsD xs) := by
  obtain ⟨ls, e, hl, hls⟩ := typed_slice Tryd.underlying25 h
  obtain ⟨xs, h1, h2, h3⟩ := ints_rows ls hls
  rw [bytes3] at hl
  refine ⟨xs, h2, by omega, fun M v hd => ?_⟩
  simp only [List.cons.injEq, and_true] at e
  subst e
  rw [cells3] at hd
  unfold intsD
  rw [h1]
  exact denD_rowsLe hd (fun i hi => by rw [h3 i hi])
theorem dig_of {l : List D} (h : Typed Tryd.prog 27 l) : ∃ k : List Int, k.length = 32 ∧ Byt k ∧ l = k.map fun x => D.v (.int .u8 x) := by
  obtain ⟨hl, hi⟩ := typed_array Tryd.underlying27 h
  rw [cells27] at hl
  rw [cells5] at hi
  have key : ∀ (n : Nat) (l : List D), l.length = n → (∀ i, i < n → Typed Tryd.prog 5 ((l.drop (i * 1)).take 1)) → ∃ k : List Int, k.length = n ∧ Byt k ∧ l = k.map fun x => D.v (.int .u8 x) := by
    intro n
    induction n with
    | zero => intro l hl _; exact ⟨[], rfl, (fun x hx => by cases hx), by simpa using hl⟩
    | succ n ih =>
      intro l hl h
      cases l with
      | nil => simp at hl
      | cons a r =>
        have h0 := h 0 (by omega)
        obtain ⟨m, e, h1, h2⟩ := typed_int Tryd.underlying5 h0
        obtain ⟨k, k1, k2, k3⟩ := ih r (by simpa using hl) (fun i hi => by
          have := h (i + 1) (by omega)
          rwa [show (i + 1) * 1 = i * 1 + 1 by omega, List.drop_succ_cons] at this)
        refine ⟨m :: k, by simp [k1], fun x hx => ?_, ?_⟩
        · rcases List.mem_cons.1 hx with rfl | hx
          · simp [IntKind.min, IntKind.max, IntKind.signed, IntKind.bits] at h1 h2
            omega
          · exact k2 x hx
        · simp at e
          rw [e, k3]
          rfl
  exact key 32 l hl hi
theorem take_of {l : List D} (h : Typed Tryd.prog 49 l) : ∃ t : Tk, t.Ok0 ∧ ∀ (j : Nat) (x' : D), t.cells[j]? = some x' → ∃ x, l[j]? = some x ∧ DLe x x' := by
  cases h with
  | int hu h => rw [Tryd.underlying49] at hu; cases hu
  | bool hu => rw [Tryd.underlying49] at hu; cases hu
  | str hu hs => rw [Tryd.underlying49] at hu; cases hu
  | array hu hl h => rw [Tryd.underlying49] at hu; cases hu
  | slice hu hl h => rw [Tryd.underlying49] at hu; cases hu
  | struct hu hl h =>
    rw [Tryd.underlying49] at hu
    cases hu
    rw [cells49] at hl
    have h0 : Typed Tryd.prog 27 ((l.drop 0).take (Tryd.prog.cellsOf 27)) := h 0 _ rfl
    have h1 : Typed Tryd.prog 25 ((l.drop 32).take (Tryd.prog.cellsOf 25)) := h 1 _ rfl
    rw [cells27] at h0
    rw [cells25] at h1
    obtain ⟨k, k1, k2, k3⟩ := dig_of h0
    have hlt : 32 < l.length := by omega
    have hx : (l.drop 32).take 1 = [l[32]] := by
      rw [List.drop_eq_getElem_cons hlt]
      rfl
    rw [hx] at h1
    obtain ⟨xs, x1, x2, x3⟩ := ints_of h1
    refine ⟨⟨k, xs⟩, ⟨k1, k2, x1, by show xs.length ≤ _; omega⟩, fun j x' hj => ?_⟩
    rw [List.drop_zero] at k3
    unfold Tk.cells at hj
    by_cases hj2 : j < 32
    · rw [List.getElem?_append_left (by simp [k1]; omega), ← k3, List.getElem?_take, if_pos hj2] at hj
      exact ⟨x', hj, fun M v h => h⟩
    · rw [List.getElem?_append_right (by simp [k1]; omega)] at hj
      simp only [List.length_map, k1] at hj
      cases hz : j - 32 with
      | zero =>
        have : j = 32 := by omega
        subst this
        simp at hj
        subst hj
        exact ⟨l[32], List.getElem?_eq_getElem hlt, x3⟩
      | succ n => rw [hz] at hj; simp at hj
theorem takes_rows : ∀ (ls : List (List D)), (∀ l ∈ ls, Typed Tryd.prog 49 l) → ∃ ts : List Tk, ts.length = ls.length ∧ (∀ t ∈ ts, t.Ok0) ∧ ∀ i, i < ls.length → ∀ (j : Nat) (x' : D), (tkRow ts i)[j]? = some x' → ∃ x, (ls.getD i [])[j]? = some x ∧ DLe x x'
  | [], _ => ⟨[], rfl, (fun x hx => by cases hx), fun i hi => by simp at hi⟩
  | l :: r, h => by
    obtain ⟨t, h1, h2⟩ := take_of (h l (by simp))
    obtain ⟨ts, g1, g2, g3⟩ := takes_rows r (fun x hx => h x (by simp [hx]))
    refine ⟨t :: ts, by simp [g1], fun x hx => ?_, fun i hi => ?_⟩
    · rcases List.mem_cons.1 hx with rfl | hx
      · exact h1
      · exact g2 x hx
    · cases i with
      | zero => exact h2
      | succ i => simpa [tkRow] using g3 i (by simpa using hi)
theorem takes_of {x : D} (h : Typed Tryd.prog 22 [x]) : ∃ ts : List Tk, (∀ t ∈ ts, t.Ok0) ∧ DLe x (tksD ts) := by
  obtain ⟨ls, e, hl, hls⟩ := typed_slice Tryd.underlying22 h
  obtain ⟨ts, h1, h2, h3⟩ := takes_rows ls hls
  refine ⟨ts, h2, ?_⟩
  simp only [List.cons.injEq, and_true] at e
  subst e
  rw [cells49]
  unfold tksD
  rw [h1]
  refine rows_le (fun i hi => ?_) fun i j x' hi hx => h3 i hi j x' hx
  exact Tk.cells_length (h2 _ (getD_mem' (by omega))).len
theorem pool_of {l : List D} (h : Typed Tryd.prog 24 l) : ∃ ts : List Tk, (∀ t ∈ ts, t.Ok0) ∧ DLe (.agg l) (poolD ts) := by
  cases h with
  | int hu h => rw [Tryd.underlying24] at hu; cases hu
  | bool hu => rw [Tryd.underlying24] at hu; cases hu
  | str hu hs => rw [Tryd.underlying24] at hu; cases hu
  | array hu hl h => rw [Tryd.underlying24] at hu; cases hu
  | slice hu hl h => rw [Tryd.underlying24] at hu; cases hu
  | struct hu hl h =>
    rw [Tryd.underlying24] at hu
    cases hu
    rw [cells24] at hl
    match l, hl with
    | [a], _ =>
    have h0 : Typed Tryd.prog 22 (([a].drop 0).take (Tryd.prog.cellsOf 22)) := h 0 _ rfl
    rw [cells22] at h0
    obtain ⟨ts, t1, t2⟩ := takes_of (x := a) h0
    refine ⟨ts, t1, fun M v hd => ?_⟩
    cases hd with
    | agg _ vs hl hx =>
      refine .agg _ vs (by simpa using hl) fun j x z hj hz => ?_
      cases j with
      | zero => simp at hj; subst hj; exact t2 M z (hx 0 a z rfl hz)
      | succ j => simp at hj
theorem digs_rows : ∀ (ls : List (List D)), (∀ l ∈ ls, Typed Tryd.prog 27 l) → ∃ ks : List (List Int), ks.length = ls.length ∧ (∀ k ∈ ks, k.length = 32 ∧ Byt k) ∧ ∀ i, i < ls.length → ls.getD i [] = digRow ks i
  | [], _ => ⟨[], rfl, (fun x hx => by cases hx), fun i hi => by simp at hi⟩
  | l :: r, h => by
    obtain ⟨k, h1, h2, h3⟩ := dig_of (h l (by simp))
    obtain ⟨ks, g1, g2, g3⟩ := digs_rows r (fun x hx => h x (by simp [hx]))
    refine ⟨k :: ks, by simp [g1], fun x hx => ?_, fun i hi => ?_⟩
    · rcases List.mem_cons.1 hx with rfl | hx
      · exact ⟨h1, h2⟩
      · exact g2 x hx
    · cases i with
      | zero => exact h3
      | succ i => simpa [digRow] using g3 i (by simpa using hi)
theorem digs_of {x : D} (h : Typed Tryd.prog 41 [x]) : ∃ ks : List (List Int), (∀ k ∈ ks, k.length = 32 ∧ Byt k) ∧ ks.length ≤ 140737488355328 ∧ DLe x (digsD ks) := by
  obtain ⟨ls, e, hl, hls⟩ := typed_slice Tryd.underlying41 h
  obtain ⟨ks, h1, h2, h3⟩ := digs_rows ls hls
  rw [bytes27] at hl
  refine ⟨ks, h2, by omega, fun M v hd => ?_⟩
  simp only [List.cons.injEq, and_true] at e
  subst e
  rw [cells27] at hd
  unfold digsD
  rw [h1]
  exact denD_rowsLe hd h3


theorem lists_rows : ∀ (ls : List (List D)), (∀ l ∈ ls, Typed Tryd.prog 25 l) → ∃ L : List (List Int), L.length = ls.length ∧ (∀ xs ∈ L, (∀ x ∈ xs, I64 x) ∧ xs.length ≤ 17592186044416) ∧ ∀ i, i < ls.length → ∀ (j : Nat) (x' : D), (intRow L i)[j]? = some x' → ∃ x, (ls.getD i [])[j]? = some x ∧ DLe x x'
  | [], _ => ⟨[], rfl, (fun x hx => by cases hx), fun i hi => by simp at hi⟩
  | l :: r, h => by
    have hl := h l (by simp)
    obtain ⟨x, rfl⟩ : ∃ x, l = [x] := by
      obtain ⟨ls, e, _⟩ := typed_slice Tryd.underlying25 hl
      exact ⟨_, e⟩
    obtain ⟨xs, x1, x2, x3⟩ := ints_of hl
    obtain ⟨L, g1, g2, g3⟩ := lists_rows r (fun x hx => h x (by simp [hx]))
    refine ⟨xs :: L, by simp [g1], fun z hz => ?_, fun i hi => ?_⟩
    · rcases List.mem_cons.1 hz with rfl | hz
      · exact ⟨x1, x2⟩
      · exact g2 z hz
    · cases i with
      | zero =>
        intro j x' hj
        cases j with
        | zero => simp [intRow] at hj; subst hj; exact ⟨x, rfl, x3⟩
        | succ j => simp [intRow] at hj
      | succ i => simpa [intRow] using g3 i (by simpa using hi)
theorem lists_of {x : D} (h : Typed Tryd.prog 46 [x]) : ∃ L : List (List Int), (∀ xs ∈ L, (∀ x ∈ xs, I64 x) ∧ xs.length ≤ 17592186044416) ∧ L.length ≤ 140737488355328 ∧ DLe x (listsD L) := by
  obtain ⟨ls, e, hl, hls⟩ := typed_slice Tryd.underlying46 h
  obtain ⟨L, h1, h2, h3⟩ := lists_rows ls hls
  rw [bytes25] at hl
  refine ⟨L, h2, by omega, ?_⟩
  simp only [List.cons.injEq, and_true] at e
  subst e
  rw [cells25]
  unfold listsD
  rw [h1]
  exact rows_le (fun i hi => rfl) fun i j x' hi hx => h3 i hi j x' hx
theorem denL1 {V : Vals} {M : Mem} {x : D} {v : Value} (h : DenD M x v) : DenL V M [.d x] [v] := ⟨rfl, fun j y z hy hz => by
  cases j with
  | zero => simp at hy hz; subst hy; subst hz; exact .d _ _ h
  | succ j => simp at hy⟩
theorem denL2 {V : Vals} {M : Mem} {x y : D} {v w : Value} (h : DenD M x v) (k : DenD M y w) : DenL V M [.d x, .d y] [v, w] := ⟨rfl, fun j a b ha hb => by
  match j with
  | 0 => simp at ha hb; subst ha; subst hb; exact .d _ _ h
  | 1 => simp at ha hb; subst ha; subst hb; exact .d _ _ k
  | j + 2 => simp at ha⟩
theorem denL3 {V : Vals} {M : Mem} {x y z : D} {v w u : Value} (h : DenD M x v) (k : DenD M y w) (l : DenD M z u) : DenL V M [.d x, .d y, .d z] [v, w, u] := ⟨rfl, fun j a b ha hb => by
  match j with
  | 0 => simp at ha hb; subst ha; subst hb; exact .d _ _ h
  | 1 => simp at ha hb; subst ha; subst hb; exact .d _ _ k
  | 2 => simp at ha hb; subst ha; subst hb; exact .d _ _ l
  | j + 3 => simp at ha⟩

/-! The variables. -/
abbrev laidL : List (String × DataW Unit) := [("soundpost/digest.start", Rows.laid_soundpost_digest_start), ("soundpost/digest.numbers", Rows.laid_soundpost_digest_numbers)]
theorem g0_of : Tryd.prog.globalNamed "soundpost/digest.start" = some 0 := by kernel_rfl
theorem gt0_of : (Tryd.prog.globals[0]?).map (·.type) = some 94 := by kernel_rfl
theorem g1_of : Tryd.prog.globalNamed "soundpost/digest.numbers" = some 1 := by kernel_rfl
theorem gt1_of : (Tryd.prog.globals[1]?).map (·.type) = some 106 := by kernel_rfl
theorem arr_cells {enc : TypeId × Value → Unit} {w : World} {base : Nat} {sp : Nat → Bool} {held : Bool} {fuel : Nat} {t e n : Nat} {k : IntKind} {cs : List Value} {ds : List (DataW Unit)} {ps : List MemPlace} {xs : List Int}
    (ht : Tryd.prog.underlying t = some (.array n e)) (hte : Tryd.prog.underlying e = some (.int k)) (hc : Tryd.prog.cellsOf e = 1) (hx : ds = xs.map fun x => .lit (.int k x)) (hn : xs.length = n)
    (h : DataW.trod enc Tryd.prog w base sp held fuel t cs = some (.agg ds, ps)) : ∀ (j : Nat) (x : Value), (xs.map fun x => Value.int k x)[j]? = some x → cs[j]? = some x := by
  obtain ⟨ys, m, rfl, hx1, hlen, hn3, hel⟩ := DataW.trod_array ht h
  intro j x hj
  rw [List.getElem?_map, Option.map_eq_some_iff] at hj
  obtain ⟨a, ha, rfl⟩ := hj
  have hjn : j < n := by rw [← hn]; exact (List.getElem?_eq_some_iff.1 ha).1
  have hE := hel j hjn
  rw [hc, Nat.mul_one] at hE
  have hy : ys[j]? = some ys[j] := List.getElem?_eq_getElem (by omega)
  rw [hy] at hE
  obtain ⟨q, e1, e2, _⟩ := DataW.trod_int hte hE
  simp only [Prod.mk.injEq, DataW.agg.injEq] at hx1
  have hd : ds[j]? = some (.lit (.int k a)) := by rw [hx, List.getElem?_map, ha]; rfl
  rw [hx1.1, List.getElem?_map, hy] at hd
  simp only [Option.map_some, Option.some.injEq] at hd
  rw [e2] at hd
  simp at hd
  subst hd
  have h3 : ((cs.drop j).take 1)[0]? = some (.int k q) := by rw [e1]; rfl
  rw [List.getElem?_take, if_pos (by decide), List.getElem?_drop, Nat.add_zero] at h3
  exact h3
theorem glob_of {W : World} (h : laidMetH Tryd.prog laidL W) : Glob (memOf W) := by
  rw [MakeChecks.laidMetH_plain _ _ _ (by kernel_rfl)] at h
  obtain ⟨ps, ⟨g0, t0, cs0, f0, p0, q0, hg0, ht0, hv0, hd0, ⟨g1, t1, cs1, f1, p1, q1, hg1, ht1, hv1, hd1, _, _⟩, _⟩, _, _⟩ := h
  obtain rfl := Option.some.inj (g0_of.symm.trans hg0)
  obtain rfl := Option.some.inj (g1_of.symm.trans hg1)
  obtain rfl := Option.some.inj (gt0_of.symm.trans ht0)
  obtain rfl := Option.some.inj (gt1_of.symm.trans ht1)
  intro p hp j x hj
  show W.cell? ⟨p.1, j, none⟩ = some x
  have hcases : p = globs.getD 0 (0, []) ∨ p = globs.getD 1 (0, []) := by
    simp only [globs, List.mem_cons, List.not_mem_nil, or_false] at hp
    rcases hp with rfl | rfl
    · exact .inl rfl
    · exact .inr rfl
  rcases hcases with rfl | rfl
  · have hc := arr_cells Tryd.underlying94 Tryd.underlying93 (by kernel_rfl) (xs := [1779033703, 3144134277, 1013904242, 2773480762, 1359893119, 2600822924, 528734635, 1541459225]) (by rfl) (by rfl) hd0 j x hj
    have := World.var?_cell hg0 hv0 j
    show W.cell? ⟨0, j, none⟩ = _
    rw [this, ← Array.getElem?_toList]
    exact hc
  · have hc := arr_cells Tryd.underlying106 Tryd.underlying93 (by kernel_rfl) (xs := [1116352408, 1899447441, 3049323471, 3921009573, 961987163, 1508970993, 2453635748, 2870763221, 3624381080, 310598401, 607225278, 1426881987, 1925078388, 2162078206, 2614888103, 3248222580, 3835390401, 4022224774, 264347078, 604807628, 770255983, 1249150122, 1555081692, 1996064986, 2554220882, 2821834349, 2952996808, 3210313671, 3336571891, 3584528711, 113926993, 338241895, 666307205, 773529912, 1294757372, 1396182291, 1695183700, 1986661051, 2177026350, 2456956037, 2730485921, 2820302411, 3259730800, 3345764771, 3516065817, 3600352804, 4094571909, 275423344, 430227734, 506948616, 659060556, 883997877, 958139571, 1322822218, 1537002063, 1747873779, 1955562222, 2024104815, 2227730452, 2361852424, 2428436474, 2756734187, 3204031479, 3329325298]) (by rfl) (by rfl) hd1 j x hj
    have := World.var?_cell hg1 hv1 j
    show W.cell? ⟨1, j, none⟩ = _
    rw [this, ← Array.getElem?_toList]
    exact hc
theorem door_met (os : Os) (args : Array Value) : laidMetH Tryd.prog laidL ((World.doorLaid Tryd.prog 400 os).forCall (fun _ _ => 0) ⟨#[], args, []⟩).memory :=
  laidMetH_of_parts3 (fuel := 8) (laidMet_of_run' 8 (by kernel_rfl) (by kernel_rfl)) (by kernel_rfl) (by kernel_rfl)

end Go.Proofs.YtmdfamnnnoieaaaDoor

