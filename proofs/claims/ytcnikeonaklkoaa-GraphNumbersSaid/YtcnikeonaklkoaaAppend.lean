/- Slices that the function makes and owns: make, composite literals, append, cuts. No program in sight. -/
import Derived.Test.YtcnikeonaklkoaaStore
import Derived.Deep.AppendSrc
namespace Go.Proofs.Ytcnikeonaklkoaa
open Go
set_option linter.unusedVariables false
set_option linter.unusedSimpArgs false
variable {P : Program} {S : St} {ro : Ro} {ops : Array Oper}

def Col.oneB : Col → Bool
  | .ints _ _ => true
  | .bools _ => true
  | .ds xs => xs.all fun x => (AV.d x).oneB
theorem col_one {c : Col} (h : c.oneB = true) {i : Nat} (hi : i < c.len) : (AV.d (c.at i)).oneB = true := by
  cases c with
  | ints => rfl
  | bools => rfl
  | ds xs =>
    simp only [Col.oneB, List.all_eq_true] at h
    simp only [Col.len] at hi
    simp only [Col.at, List.getD_eq_getElem?_getD, List.getElem?_eq_getElem hi, Option.getD_some]
    exact h _ (List.getElem_mem hi)

/-- Cells of a block that read as rows. -/
def RowsL (M : Mem) (n len : Nat) (cs : List Col) (us : List Value) : Prop :=
  cs.length = n ∧ (∀ c ∈ cs, c.len = len) ∧ us.length = len * n ∧ ∀ i j c, i < len → cs[j]? = some c → ∃ v, us[i * n + j]? = some v ∧ DenD M (c.at i) v

theorem RowsL.one {M : Mem} {n len : Nat} {cs : List Col} {us : List Value} (h : RowsL M n len cs us) (h1 : ∀ c ∈ cs, c.oneB = true) : ∀ u ∈ us, u.oneCell' = true := by
  intro u hu
  obtain ⟨k, hk, rfl⟩ := List.mem_iff_getElem.1 hu
  obtain ⟨a1, a2, a3, a4⟩ := h
  have hn : 0 < n := by
    rcases Nat.eq_zero_or_pos n with h | h
    · rw [h, Nat.mul_zero] at a3; omega
    · exact h
  have hkn : k / n < len := Nat.div_lt_of_lt_mul (by rw [a3, Nat.mul_comm] at hk; exact hk)
  have hj : k % n < cs.length := by rw [a1]; exact Nat.mod_lt _ hn
  obtain ⟨v, hv, hd⟩ := a4 (k / n) (k % n) cs[k % n] hkn (List.getElem?_eq_getElem hj)
  have he : k / n * n + k % n = k := Nat.div_add_mod' k n
  rw [he, List.getElem?_eq_getElem hk] at hv
  injection hv with hv
  rw [hv]
  refine one_of (V := ⟨fun _ => 0, fun _ => none⟩) (.d _ _ hd) (col_one (h1 _ (List.getElem_mem hj)) (by rw [a2 _ (List.getElem_mem hj)]; exact hkn))

def kindOK (P : Program) (t : TypeId) : Bool := match P.underlying t with
  | some (.slice _) | some .string => true
  | _ => false
theorem kindOK_of {t : TypeId} (h : kindOK P t = true) : (∃ e', P.underlying t = some (.slice e')) ∨ P.underlying t = some .string := by
  unfold kindOK at h
  split at h
  · rename_i e hu; exact .inl ⟨e, hu⟩
  · rename_i hu; exact .inr hu
  · cases h

theorem getD_map' {α β : Type} (f : α → β) (xs : List α) (d : α) (e : β) {i : Nat} (h : i < xs.length) : (xs.map f).getD i e = f (xs.getD i d) := by
  simp [List.getD_eq_getElem?_getD, h]

/-- What an append's second argument brings. -/
inductive SrcOf (S : St) (y : Operand) : List Nat → Nat → Nat → List Col → Prop
  | own {l n len : Nat} {cs : List Col} (e : Ev S true y (.own l len)) (hb : S.get (bk l) = some (.blk (.app n len cs))) : SrcOf S y [l] n len cs
  | sl {l n lo len tot : Nat} {B : Blk} {cs cs' : List Col} (e : Ev S true y (.sl l n lo len)) (hb : S.get (bk l) = some (.blk B)) (hB : B.rowsOf = some (n, tot, cs)) (hle : lo + len ≤ tot) (hl : cs'.length = n) (hc : ∀ c ∈ cs', c.len = len)
      (ha : ∀ (j : Nat) (c' : Col), cs'[j]? = some c' → ∃ c, cs[j]? = some c ∧ ∀ i, i < len → c'.at i = c.at (lo + i)) : SrcOf S y [l] n len cs'
  | rows {n len : Nat} {g : Nat → List D} {cs : List Col} (e : Ev S true y (.d (.rows n len g))) (hl : cs.length = n) (hc : ∀ c ∈ cs, c.len = len) (hg : ∀ i, i < len → g i = cs.map (Col.at · i)) : SrcOf S y [] n len cs
  | nil {n : Nat} {cs : List Col} (e : Ev S true y nilS) (hl : cs.length = n) (hc : ∀ c ∈ cs, c.len = 0) : SrcOf S y [] n 0 cs
  | str {s : ByteArray} (e : Ev S true y (sv s)) : SrcOf S y [] 1 s.size [.ints .u8 (s.data.toList.map fun b => (b.toNat : Int))]

theorem rowsL_of {M : Mem} {n len cap : Nat} {cs : List Col} {vs : Array Value} (h : rowsAt M n len cs vs) (hle : len ≤ cap) (hs : vs.size = cap * n) : RowsL M n len cs (vs.toList.take (len * n)) := by
  have hm : len * n ≤ cap * n := Nat.mul_le_mul_right n hle
  refine ⟨h.1, h.2.1, by simp; omega, fun i j c hi hc => ?_⟩
  obtain ⟨v, hv, hd⟩ := h.2.2 i j c hi hc
  have hj : j < n := by rw [← h.1]; exact (List.getElem?_eq_some_iff.1 hc).1
  have : (i + 1) * n ≤ len * n := Nat.mul_le_mul_right n hi
  rw [Nat.add_mul, Nat.one_mul] at this
  exact ⟨v, by rw [List.getElem?_take_of_lt (by omega)]; simpa using hv, hd⟩

theorem src_of {E : Env} {V : Vals} {M : Mem} {a : Act} {w : World} {o : Oper} {bl0 bl : List Nat} {y : Operand} {n len : Nat} {cs : List Col} {tx : TypeId} (h : SrcOf S y bl n len cs) (hg : Given E S o bl0 true V M a w) (hsub : ∀ l ∈ bl, l ∈ bl0) (hy : y ∈ o.op.operands)
    (hk : kindOK P tx = true) (h1 : ∀ c ∈ cs, c.oneB = true) : ∃ news, Src P n tx (a.eval y) len news w ∧ RowsL M n len cs news := by
  have kind := kindOK_of hk
  have mk : ∀ {b o' : Nat} {cap : Nat} {news : List Value}, RowsL M n len cs news → (∀ j u, news[j]? = some u → w.cell? ⟨b, o' + j, none⟩ = some u) → Src P n tx (.slice (some ⟨b, o', none⟩) len cap) len news w := by
    intro b o' cap news hr hc
    have hl : news.length = len * n := hr.2.2.1
    have hc' : ∀ j u, news[j]? = some u → w.cell? ((⟨b, o', none⟩ : Addr).add j) = some u := fun j u hu => by rw [addr_add]; exact hc j u hu
    exact ⟨kind, fun _ => rfl, run_firstCells_some w n len ⟨b, o', none⟩ len cap news hl hc', run_firstCells_some w.drew n len ⟨b, o', none⟩ len cap news hl (by simpa using hc'), hl, hr.one h1⟩
  have mk0 : ∀ (a0 : Option Addr) (cap : Nat), len = 0 → Src P n tx (.slice a0 len cap) len [] w := by
    intro a0 cap hl
    subst hl
    refine ⟨kind, fun _ => rfl, ?_, ?_, by simp, fun _ h => by cases h⟩ <;> cases a0 <;> simp [Builtin.firstCells, loadCells, loadCellsFrom]
  cases h with
  | @own l _ _ _ e hb =>
    have hy := hg.opd y hy _ e
    obtain ⟨b1, b2, b3⟩ := hg.blk l (hsub l (by simp)) _ hb
    generalize a.eval y = v at hy
    cases hy with
    | own _ _ cap hkl hc =>
      rw [hkl] at b3
      obtain ⟨_, vs, tt, hh, hs, hr⟩ := b3
      have hrl := rowsL_of hr hc hs
      refine ⟨_, mk hrl fun j u hu => ?_, hrl⟩
      rw [List.getElem?_take] at hu
      split at hu
      · simp only [World.cell?, hh, Nat.zero_add]
        simpa using hu
      · cases hu
    | ownNil _ hkl => exact ⟨[], mk0 _ _ rfl, b1, b2, by simp, fun i j c hi _ => absurd hi (by omega)⟩
  | @sl l _ lo _ tot B cs0 _ e hb hB hle hl hc ha =>
    have hy := hg.opd y hy _ e
    have hblk := hg.blk l (hsub l (by simp)) _ hb
    generalize a.eval y = v at hy
    cases hy with
    | sl _ _ _ _ cap hcap hkl =>
      by_cases h0 : len = 0
      · subst h0
        exact ⟨[], mk0 _ _ rfl, hl, hc, by simp, fun i j c hi _ => absurd hi (by omega)⟩
      · obtain ⟨vs, tt, hh, hr⟩ := rows_of hblk hB (by omega)
        have hrl : RowsL M n len cs ((List.range (len * n)).map fun k => vs.getD (lo * n + k) undef) := by
          refine ⟨hl, hc, by simp, fun i j c' hi hc' => ?_⟩
          obtain ⟨c, hcc, hat⟩ := ha j c' hc'
          obtain ⟨u, hu, hdu⟩ := hr.2.2 (lo + i) j c (by omega) hcc
          have hj : j < n := by rw [← hr.1]; exact (List.getElem?_eq_some_iff.1 hcc).1
          have : (i + 1) * n ≤ len * n := Nat.mul_le_mul_right n hi
          rw [Nat.add_mul, Nat.one_mul] at this
          rw [Nat.add_mul, Nat.add_assoc] at hu
          refine ⟨u, ?_, by rw [hat i hi]; exact hdu⟩
          rw [List.getElem?_map, List.getElem?_range (by omega)]
          simp [Array.getD_eq_getD_getElem?, hu]
        refine ⟨_, mk hrl fun j u hu => ?_, hrl⟩
        simp only [List.getElem?_map, Option.map_eq_some_iff] at hu
        obtain ⟨k, hk', rfl⟩ := hu
        have hjk : j < len * n := by
          have := (List.getElem?_eq_some_iff.1 hk').1
          simpa using this
        rw [List.getElem?_range hjk] at hk'
        injection hk' with hk'; subst hk'
        have hn : 0 < n := by
          rcases Nat.eq_zero_or_pos n with h | h
          · subst h; omega
          · exact h
        have hjn : j / n < len := Nat.div_lt_of_lt_mul (by rw [Nat.mul_comm]; exact hjk)
        have hmod : j % n < cs0.length := by rw [hr.1]; exact Nat.mod_lt _ hn
        obtain ⟨u, hu, _⟩ := hr.2.2 (lo + j / n) (j % n) cs0[j % n] (by omega) (List.getElem?_eq_getElem hmod)
        have he : (lo + j / n) * n + j % n = lo * n + j := by rw [Nat.add_mul, Nat.add_assoc, Nat.div_add_mod']
        rw [he] at hu
        simp [World.cell?, hh, hu, Array.getD_eq_getD_getElem?]
    | slEmp => exact ⟨[], mk0 _ _ rfl, hl, hc, by simp, fun i j c hi _ => absurd hi (by omega)⟩
  | rows e hl hc hgr =>
    have hy := hg.opd y hy _ e
    generalize a.eval y = v at hy
    cases hy with
    | d _ _ hy =>
      cases hy with
      | emp => exact ⟨[], mk0 _ _ rfl, hl, hc, by simp, fun i j c hi _ => absurd hi (by omega)⟩
      | rows _ _ _ b o' cap hcap hgl f hm hd =>
        have hrl : RowsL M n len cs ((List.range (len * n)).map fun k => f (k / n) (k % n)) := by
          refine ⟨hl, hc, by simp, fun i j c hi hcj => ?_⟩
          have hj : j < n := by rw [← hl]; exact (List.getElem?_eq_some_iff.1 hcj).1
          have : (i + 1) * n ≤ len * n := Nat.mul_le_mul_right n hi
          rw [Nat.add_mul, Nat.one_mul] at this
          have e1 : (i * n + j) / n = i := by rw [Nat.mul_comm, Nat.mul_add_div (by omega)]; simp [Nat.div_eq_of_lt hj]
          have e2 : (i * n + j) % n = j := by rw [Nat.mul_comm, Nat.mul_add_mod]; exact Nat.mod_eq_of_lt hj
          refine ⟨f i j, ?_, hd i j _ hi ?_⟩
          · rw [List.getElem?_map, List.getElem?_range (by omega)]
            simp [e1, e2]
          · rw [hgr i hi, List.getElem?_map, hcj]; rfl
        refine ⟨_, mk hrl fun j u hu => ?_, hrl⟩
        simp only [List.getElem?_map, Option.map_eq_some_iff] at hu
        obtain ⟨k, hk', rfl⟩ := hu
        have hjk : j < len * n := by
          have := (List.getElem?_eq_some_iff.1 hk').1
          simpa using this
        rw [List.getElem?_range hjk] at hk'
        injection hk' with hk'; subst hk'
        have hn : 0 < n := by
          rcases Nat.eq_zero_or_pos n with h | h
          · subst h; omega
          · exact h
        have hjn : j / n < len := Nat.div_lt_of_lt_mul (by rw [Nat.mul_comm]; exact hjk)
        have := hm (j / n) (j % n) hjn (Nat.mod_lt _ hn)
        rw [Nat.div_add_mod'] at this
        exact hg.mem _ _ _ this
  | nil e hl hc =>
    have hy := hg.val hy e
    rw [hy]
    exact ⟨[], mk0 _ _ rfl, hl, hc, by simp, fun i j c hi _ => absurd hi (by omega)⟩
  | @str s e =>
    have hy := hg.val hy e
    rw [hy]
    refine ⟨byteCells s, ⟨kind, fun _ => rfl, firstCells_string s w, firstCells_string s w.drew, by rw [byteCells_length, Nat.mul_one], fun u hu => by obtain ⟨_, _, rfl⟩ := List.mem_map.1 hu; rfl⟩, rfl, by simp [Col.len], by rw [byteCells_length, Nat.mul_one], fun i j c hi hc => ?_⟩
    cases j with
    | zero =>
      simp at hc; subst hc
      have hi' : i < s.data.toList.length := by simpa using hi
      refine ⟨.int .u8 (s.data.toList[i]).toNat, ?_, ?_⟩
      · unfold byteCells
        rw [List.getElem?_map, Nat.mul_one, Nat.add_zero, List.getElem?_eq_getElem hi']; rfl
      · simp only [Col.at]
        rw [getD_map' _ _ 0 _ hi', List.getD_eq_getElem?_getD, List.getElem?_eq_getElem hi']
        exact .v _
    | succ j => simp at hc

/-! Columns, one behind the other. -/
def Col.cat : Col → Col → Col
  | .ints k xs, .ints k' ys => if k = k' then .ints k (xs ++ ys) else .ds ((xs.map fun m => .v (.int k m)) ++ ys.map fun m => .v (.int k' m))
  | .bools xs, .bools ys => .bools (xs ++ ys)
  | .ds xs, .ds ys => .ds (xs ++ ys)
  | .ds xs, .ints k ys => .ds (xs ++ ys.map fun m => .v (.int k m))
  | .ds xs, .bools ys => .ds (xs ++ ys.map fun m => .v (.bool m))
  | .ints k xs, .ds ys => .ds ((xs.map fun m => .v (.int k m)) ++ ys)
  | .bools xs, .ds ys => .ds ((xs.map fun m => .v (.bool m)) ++ ys)
  | .ints k xs, .bools ys => .ds ((xs.map fun m => .v (.int k m)) ++ ys.map fun m => .v (.bool m))
  | .bools xs, .ints k ys => .ds ((xs.map fun m => .v (.bool m)) ++ ys.map fun m => .v (.int k m))
theorem getD_append {α : Type} (xs ys : List α) (d : α) (i : Nat) : (xs ++ ys).getD i d = if i < xs.length then xs.getD i d else ys.getD (i - xs.length) d := by
  simp only [List.getD_eq_getElem?_getD, List.getElem?_append]
  split <;> rfl
theorem col_cat (c c' : Col) : (c.cat c').len = c.len + c'.len ∧ ∀ i, i < c.len + c'.len → (c.cat c').at i = if i < c.len then c.at i else c'.at (i - c.len) := by
  cases c <;> cases c' <;> simp only [Col.cat]
  all_goals try split
  all_goals refine ⟨by simp [Col.len], fun i hi => ?_⟩
  all_goals split
  all_goals rename_i h
  all_goals simp only [Col.len] at h hi
  all_goals simp only [Col.at, Col.len, getD_append, List.length_map, h, if_true, if_false]
  all_goals first
    | rfl
    | (rename_i h1; subst h1; rfl)
    | (rw [getD_map' _ _ 0 _ (by omega)]; done)
    | (rw [getD_map' _ _ false _ (by omega)]; done)
def catCols : List Col → List Col → List Col
  | c :: cs, d :: ds => c.cat d :: catCols cs ds
  | _, _ => []
theorem catCols_spec {l1 l2 : Nat} : ∀ (cs ds : List Col), cs.length = ds.length → (∀ c ∈ cs, c.len = l1) → (∀ c ∈ ds, c.len = l2) →
    (catCols cs ds).length = cs.length ∧ (∀ c ∈ catCols cs ds, c.len = l1 + l2) ∧ ∀ (j : Nat) (c : Col), (catCols cs ds)[j]? = some c → ∃ (a b : Col), cs[j]? = some a ∧ ds[j]? = some b ∧ ∀ i, i < l1 + l2 → c.at i = if i < l1 then a.at i else b.at (i - l1)
  | [], [], _, _, _ => ⟨rfl, fun _ h => (by cases h), fun j c h => by simp [catCols] at h⟩
  | c :: cs, [], h, _, _ => by simp at h
  | [], d :: ds, h, _, _ => by simp at h
  | c :: cs, d :: ds, h, h1, h2 => by
    obtain ⟨a1, a2, a3⟩ := catCols_spec cs ds (by simpa using h) (fun x hx => h1 x (by simp [hx])) (fun x hx => h2 x (by simp [hx]))
    have hc := h1 c (by simp)
    have hd := h2 d (by simp)
    obtain ⟨b1, b2⟩ := col_cat c d
    refine ⟨by simp [catCols, a1], fun x hx => ?_, fun j x hx => ?_⟩
    · simp only [catCols, List.mem_cons] at hx
      rcases hx with rfl | hx
      · rw [b1, hc, hd]
      · exact a2 x hx
    · cases j with
      | zero => simp [catCols] at hx; subst hx; exact ⟨c, d, rfl, rfl, fun i hi => by rw [b2 i (by omega), hc]⟩
      | succ j => simp [catCols] at hx; simpa using a3 j x hx

theorem RowsL.cat {M : Mem} {n l1 l2 : Nat} {cs ds : List Col} {us vs : List Value} (h : RowsL M n l1 cs us) (k : RowsL M n l2 ds vs) : RowsL M n (l1 + l2) (catCols cs ds) (us ++ vs) := by
  obtain ⟨a1, a2, a3, a4⟩ := h
  obtain ⟨b1, b2, b3, b4⟩ := k
  obtain ⟨c1, c2, c3⟩ := catCols_spec cs ds (by rw [a1, b1]) a2 b2
  refine ⟨by rw [c1, a1], c2, by simp [a3, b3, Nat.add_mul], fun i j c hi hc => ?_⟩
  obtain ⟨a, b, ha, hb, hat⟩ := c3 j c hc
  have hj : j < n := by rw [← a1]; exact (List.getElem?_eq_some_iff.1 ha).1
  rw [hat i hi]
  by_cases h : i < l1
  · rw [if_pos h]
    obtain ⟨v, hv, hd⟩ := a4 i j a h ha
    have : (i + 1) * n ≤ l1 * n := Nat.mul_le_mul_right n h
    rw [Nat.add_mul, Nat.one_mul] at this
    exact ⟨v, by rw [List.getElem?_append_left (by omega)]; exact hv, hd⟩
  · rw [if_neg h]
    obtain ⟨v, hv, hd⟩ := b4 (i - l1) j b (by omega) hb
    have e : i * n = l1 * n + (i - l1) * n := by rw [← Nat.add_mul]; congr 1; omega
    refine ⟨v, ?_, hd⟩
    rw [List.getElem?_append_right (by omega), a3, e]
    rw [show l1 * n + (i - l1) * n + j - l1 * n = (i - l1) * n + j by omega]
    exact hv
theorem RowsL.at {M : Mem} {n len : Nat} {cs : List Col} {us vs : List Value} (h : RowsL M n len cs us) : rowsAt M n len cs (us ++ vs).toArray := by
  obtain ⟨a1, a2, a3, a4⟩ := h
  refine ⟨a1, a2, fun i j c hi hc => ?_⟩
  obtain ⟨v, hv, hd⟩ := a4 i j c hi hc
  have hlt := (List.getElem?_eq_some_iff.1 hv).1
  exact ⟨v, by simp only [List.getElem?_toArray]; rw [List.getElem?_append_left hlt]; exact hv, hd⟩

theorem WStep.drewAlloc (w : World) (o : Obj) : WStep w (w.drew.alloc o) w.heap.size :=
  ⟨rfl, rfl, rfl, by show w.heap.size ≤ (w.heap.push o).size; simp, fun b hb hlt => by show (w.heap.push o)[b]? = _; simp [Array.getElem?_push, hb], by show _ < (w.heap.push o).size; simp⟩

/-! append. -/
theorem run_append_room' {t tx ty e : TypeId} {i : TypeInfo} (ht : P.underlying t = some (.slice e)) (hi : P.info? e = some i) {w : World} {b sLen sCap : Nat} {x : Value} {n : Nat} {news : List Value} {tt : TypeId} {cur : Array Value} (hs : Src P i.size tx x n news w)
    (hroom : sLen + n ≤ sCap) (hb : w.heap[b]? = some (.cells cur tt (0, 0))) (ho : sLen * i.size + news.length ≤ cur.size) :
    (Builtin.append_ #[t, tx] ty #[.slice (some ⟨b, 0, none⟩) sLen sCap, x]).run P w = .ok (.slice (some ⟨b, 0, none⟩) (sLen + n) sCap) (w.setRow b (spliceL cur.toList (sLen * i.size) news).toArray) := by
  have hst := run_storeCells_at (P := P) b (sLen * i.size) tt news 0 cur w hb (by simpa using ho) hs.one
  simp only [Nat.add_zero] at hst
  have hadd : (⟨b, 0, none⟩ : Addr).add (sLen * i.size) = ⟨b, sLen * i.size, none⟩ := by rw [addr_add, Nat.zero_add]
  rcases hs.kind with ⟨e', hk⟩ | hk <;> simp [Builtin.append_, run_underlying ht, run_underlying hk, sizeOf, typeInfo, hi, hs.len, hroom, hs.cells, hadd, hst, spliceL]
theorem run_append_none {t tx ty e : TypeId} {i : TypeInfo} (ht : P.underlying t = some (.slice e)) (hi : P.info? e = some i) {w : World} {x : Value} {news : List Value} (hs : Src P i.size tx x 0 news w) :
    (Builtin.append_ #[t, tx] ty #[.slice none 0 0, x]).run P w = .ok (.slice none 0 0) w := by
  rcases hs.kind with ⟨e', hk⟩ | hk <;> simp [Builtin.append_, run_underlying ht, run_underlying hk, sizeOf, typeInfo, hi, hs.len, hs.cells]

/-- The slice that is appended to: nil, or one that the function owns. -/
inductive DstOf (S : St) (x : Operand) (n : Nat) : List Nat → Nat → List Col → Prop
  | nil (e : Ev S true x nilS) : DstOf S x n [] 0 []
  | own {l len : Nat} {cs : List Col} (e : Ev S true x (.own l len)) (hb : S.get (bk l) = some (.blk (.app n len cs))) : DstOf S x n [l] len cs

/-- The columns of what comes out. -/
def joined (old new : List Col) : List Col := match old with
  | [] => new
  | _ => catCols old new

def appOK (P : Program) (t : TypeId) (n bytes : Nat) : Bool := match P.underlying t with
  | some (.slice e) => (match P.info? e with | some i => Nat.beq i.size n && Nat.beq i.bytes bytes && (match i.zero with | some z => Nat.beq z.cells.size n | none => false) | none => false)
  | _ => false

theorem axOp_append {S0 : St} {o : Oper} {x y : Operand} {t tx : TypeId} {d l' n bytes len1 len2 : Nat} {bl1 bl2 ds : List Nat} {cs1 cs2 : List Col} (ho : o.op = .call ⟨.builtin .append, #[x, y], #[t, tx]⟩) (hdst : o.dst = some d) (hgd : o.guard = none)
    (ht : appOK P t n bytes = true) (hk : kindOK P tx = true) (hn : 0 < n) (hx : DstOf S0 x n bl1 len1 cs1) (hy : SrcOf S0 y bl2 n len2 cs2) (h1 : ∀ c ∈ cs2, c.oneB = true) (hlab : ∀ l ∈ bl1, l = l' ∨ bk l ∈ ds)
    (hbd : (len1 + len2) * bytes ≤ 140737488355328) (hb63 : len1 + len2 ≤ 140737488355328) :
    AxOp P ro ops o ⟨opNames o ++ (bl1 ++ bl2).map bk, S0, postOf ds l' (.app n (len1 + len2) (joined cs1 cs2)) d (.own l' (len1 + len2)), [l']⟩ := by
  intro E S a w hs hf hok ⟨V, M, ha, hw⟩ Q hpn
  have hd : d < E.nt := hok.2 d (names_postOf.2 (.inr (.inr rfl)))
  have hkp : l' ∉ E.keep := hok.1 l' (by simp)
  have hg : Given E S0 o (bl1 ++ bl2) true V M a w := given_of (rn := opNames o ++ (bl1 ++ bl2).map bk) hs (fun n hn => by simp [hn]) (fun l hl => by simp only [List.mem_append, List.mem_map]; right; exact ⟨l, by simpa using hl, rfl⟩) rfl ha hw
  have hyo : y ∈ o.op.operands := by rw [ho]; simp [Op.operands, Call.operands]
  have hxo : x ∈ o.op.operands := by rw [ho]; simp [Op.operands, Call.operands]
  obtain ⟨news, hsrc, hrows⟩ := src_of (P := P) (tx := tx) hy hg (fun l hl => by simp [hl]) hyo hk h1
  unfold stepIn
  rw [if_pos (by simp [Region.wanted, hgd])]
  have hnd : ∀ d, o.op ≠ .defer d := fun d h => by rw [ho] at h; cases h
  have hrun : ∀ {v : Value} {w' : World} {ux : Value}, a.eval x = ux → (Builtin.append_ #[t, tx] o.type #[ux, a.eval y]).run P w = .ok v w' → (execOp a.eval o).run P w = .ok (.value v) w' := by
    intro v w' ux hux hr
    generalize a.eval = ρ at *
    simp only [execOp, ho, resolve, Sem.run_bind, Sem.run_pure, Result.andThen, invoke, builtin]
    simp [hux, hr]
  unfold appOK at ht
  split at ht
  · rename_i e hu
    split at ht
    · rename_i inf hi
      simp only [Bool.and_eq_true] at ht
      obtain ⟨⟨ht1, ht2⟩, ht3⟩ := ht
      have e1 := Nat.eq_of_beq_eq_true ht1
      have e2 := Nat.eq_of_beq_eq_true ht2
      obtain ⟨z, hz, hzs⟩ : ∃ z, inf.zero = some z ∧ z.cells.size = n := by
        cases hz : inf.zero with
        | none => rw [hz] at ht3; cases ht3
        | some z => rw [hz] at ht3; exact ⟨z, rfl, Nat.eq_of_beq_eq_true ht3⟩
      rw [← e1] at hsrc
      -- the arm that makes a new row
      have grow : ∀ (base : Option Addr) (sCap : Nat) (olds : List Value), a.eval x = .slice base len1 sCap → sCap < len1 + len2 → (Builtin.firstCells inf.size len1 (.slice base len1 sCap)).run P w.drew = .ok olds.toArray w.drew →
          RowsL M n (len1 + len2) (joined cs1 cs2) (olds ++ news) → o.wpIn (FW ro) 0 P a w (Rep E (S.upd (postOf ds l' (.app n (len1 + len2) (joined cs1 cs2)) d (.own l' (len1 + len2))))) Q := by
        intro base sCap olds hex hlt hold hrl
        have hgr := run_append_grow_src (P := P) w t tx o.type e inf z hu hi hz base len1 sCap olds hold (a.eval y) len2 news hsrc hlt (by omega) (growslice_fits (need := len1 + len2) (old := sCap) hlt (by rw [e2]; exact hbd))
        refine wpIn_of_value hnd (hrun hex hgr) ?_
        rw [hdst]
        have hcap : len1 + len2 ≤ grownCap w (len1 + len2) sCap e := by unfold grownCap; exact Nat.le_add_right _ _
        refine rep_step ha hw (WStep.drewAlloc w _) (.inl rfl) (hf l' (by simp)) hkp hd (κ' := some (grownCap w (len1 + len2) sCap e)) ?_ ?_
        · refine ⟨hrl.1, hrl.2.1, ?_⟩
          rw [Vals.set_κ]
          refine ⟨hcap, ((olds ++ news).toArray ++ Builtin.zeroCells z.cells (grownCap w (len1 + len2) sCap e - (len1 + len2))), e, ?_, ?_, ?_⟩
          · rw [Vals.set_ρ]; exact heap_alloc w.drew _
          · have h1 : (Builtin.zeroCells z.cells (grownCap w (len1 + len2) sCap e - (len1 + len2))).size = (grownCap w (len1 + len2) sCap e - (len1 + len2)) * n := by
              simp [Builtin.zeroCells, hzs]
            have h2 := hrl.2.2.1
            rw [Array.size_append, h1, List.size_toArray, h2, ← Nat.add_mul]
            congr 1
            omega
          · have := hrl.at (vs := (Builtin.zeroCells z.cells (grownCap w (len1 + len2) sCap e - (len1 + len2))).toList)
            have es : ((olds ++ news) ++ (Builtin.zeroCells z.cells (grownCap w (len1 + len2) sCap e - (len1 + len2))).toList).toArray = (olds ++ news).toArray ++ Builtin.zeroCells z.cells (grownCap w (len1 + len2) sCap e - (len1 + len2)) := by
              apply Array.ext'
              simp
            rw [← es]
            exact this
        · have := Den.own (V := V.set l' w.heap.size (some (grownCap w (len1 + len2) sCap e))) (M := M) l' (len1 + len2) _ (by rw [Vals.set_κ]) hcap
          rw [Vals.set_ρ] at this
          exact this
      cases hx with
      | nil ex =>
        have hex := hg.val hxo ex
        by_cases h0 : len2 = 0
        · subst h0
          refine wpIn_of_value hnd (hrun hex (run_append_none hu hi hsrc)) ?_
          rw [hdst]
          refine rep_nil ha hw (hf l' (by simp)) hkp hd ⟨hrows.1, by simpa [joined] using hrows.2.1, by simp⟩ (.ownNil l' (by simp))
        · refine grow none 0 [] hex (by omega) (by simp [Builtin.firstCells]) ?_
          simpa [joined] using hrows
      | @own l _ _ ex hb =>
        have hxd := hg.opd x hxo _ ex
        obtain ⟨b1, b2, b3⟩ := hg.blk l (by simp) _ hb
        have hSl : S.get (bk l) = some (.blk (.app n len1 cs1)) := by rw [hs (bk l) (by simp)]; exact hb
        have hj : joined cs1 cs2 = catCols cs1 cs2 := by
          cases cs1 with
          | nil => simp at b1; omega
          | cons => rfl
        generalize hex : a.eval x = v at hxd
        cases hxd with
        | ownNil _ hkl =>
          by_cases h0 : len2 = 0
          · subst h0
            refine wpIn_of_value hnd (hrun hex (run_append_none hu hi hsrc)) ?_
            rw [hdst, hj]
            obtain ⟨c1, c2, c3⟩ := catCols_spec cs1 cs2 (by rw [b1, hrows.1]) b2 hrows.2.1
            exact rep_nil ha hw (by have := hf l' (by simp); rwa [hj] at this) hkp hd ⟨by rw [c1, b1], c2, by simp⟩ (.ownNil l' (by simp))
          · refine grow none 0 [] hex (by omega) (by simp [Builtin.firstCells]) ?_
            rw [hj]
            have h00 : RowsL M n 0 cs1 [] := ⟨b1, b2, by simp, fun i j c hi _ => absurd hi (by omega)⟩
            exact h00.cat hrows
        | own _ _ cap hkl hcl =>
          rw [hkl] at b3
          obtain ⟨_, vs, tt, hh, hsz, hr⟩ := b3
          have hrl := rowsL_of hr hcl hsz
          have hall := hrl.cat hrows
          have hnl : news.length = len2 * n := hrows.2.2.1
          by_cases hroom : len1 + len2 ≤ cap
          · have hfit : len1 * inf.size + news.length ≤ vs.size := by
              rw [e1, hnl, hsz, ← Nat.add_mul]; exact Nat.mul_le_mul_right n hroom
            refine wpIn_of_value hnd (hrun hex (run_append_room' hu hi hsrc hroom hh hfit)) ?_
            rw [hdst]
            have hbl : HasB V S l := ⟨⟨_, hSl⟩, by rw [hkl]; simp⟩
            refine rep_step ha hw (WStep.setRow w _ _ (hw.bd l hbl)) (.inr ⟨l, hbl, rfl, ?_⟩) (hf l' (by simp)) hkp hd (κ' := some cap) ?_ ?_
            · rcases hlab l (by simp) with h | h
              · exact .inr h
              · exact .inl h
            · refine ⟨by rw [hj]; exact hall.1, by rw [hj]; exact hall.2.1, ?_⟩
              rw [Vals.set_κ]
              refine ⟨hroom, _, tt, by rw [Vals.set_ρ]; exact setRow_heap w _ _ _ _ _ hh, ?_, ?_⟩
              · rw [List.size_toArray, spliceL_length (by simpa using hfit)]; simpa using hsz
              · rw [hj]
                have := hall.at (vs := vs.toList.drop (len1 * inf.size + news.length))
                have es : spliceL vs.toList (len1 * inf.size) news = vs.toList.take (len1 * n) ++ news ++ vs.toList.drop (len1 * inf.size + news.length) := by rw [← e1]; rfl
                rw [es]
                exact this
            · have := Den.own (V := V.set l' (V.ρ l) (some cap)) (M := M) l' (len1 + len2) cap (by rw [Vals.set_κ]) hroom
              rw [Vals.set_ρ] at this
              exact this
          · refine grow (some ⟨V.ρ l, 0, none⟩) cap (vs.toList.take (len1 * n)) hex (by omega) ?_ (by rw [hj]; exact hall)
            refine run_firstCells_some w.drew inf.size len1 ⟨V.ρ l, 0, none⟩ len1 cap _ (by rw [e1]; exact hrl.2.2.1) fun j u hu => ?_
            rw [addr_add, Nat.zero_add]
            rw [List.getElem?_take] at hu
            split at hu
            · show w.cell? _ = _
              simp only [World.cell?, hh]
              simpa using hu
            · cases hu
    · cases ht
  · cases ht


theorem Trace.append {S0 S' : St} {r : List Oper} {L : List Ax} {x y : Operand} {t tx ty : TypeId} {pos : String} {af : Array Edge} {d n bytes len1 len2 : Nat} {bl1 bl2 : List Nat} {cs1 cs2 cs : List Col} (l' : Nat) (ds : List Nat)
    (ht : appOK P t n bytes = true) (hk : kindOK P tx = true) (hn : 0 < n) (hx : DstOf S0 x n bl1 len1 cs1) (hy : SrcOf S0 y bl2 n len2 cs2) (h1 : ∀ c ∈ cs2, c.oneB = true) (hlab : ∀ l ∈ bl1, l = l' ∨ bk l ∈ ds)
    (hbd : (len1 + len2) * bytes ≤ 140737488355328) (hb63 : len1 + len2 ≤ 140737488355328) (hcs : joined cs1 cs2 = cs)
    (hf : freshB ⟨opNames ⟨some d, .call ⟨.builtin .append, #[x, y], #[t, tx]⟩, ty, pos, af, none⟩ ++ (bl1 ++ bl2).map bk, S0, postOf ds l' (.app n (len1 + len2) cs) d (.own l' (len1 + len2)), [l']⟩ S0 = true)
    (h : Trace P ro ops r (S0.after ds l' (.app n (len1 + len2) cs) d (.own l' (len1 + len2))) L S') :
    Trace P ro ops (⟨some d, .call ⟨.builtin .append, #[x, y], #[t, tx]⟩, ty, pos, af, none⟩ :: r) S0 (⟨opNames ⟨some d, .call ⟨.builtin .append, #[x, y], #[t, tx]⟩, ty, pos, af, none⟩ ++ (bl1 ++ bl2).map bk, S0, postOf ds l' (.app n (len1 + len2) cs) d (.own l' (len1 + len2)), [l']⟩ :: L) S' := by
  subst hcs
  exact Trace.new ds (axOp_append rfl rfl rfl ht hk hn hx hy h1 hlab hbd hb63) hf h

end Go.Proofs.Ytcnikeonaklkoaa
