/- slices.Sort at []int, by the library's own contract, laid at this program. -/
import Derived.Test.YtcnikeonaklkoaaSplit
import Derived.Test.YtcnikeonaklkoaaTypes
import Derived.Shelf.Sort.Plain
import Derived.KernelRfl
namespace Go.Proofs.Ytcnikeonaklkoaa
open Go Go.Shelf
set_option linter.unusedVariables false
set_option linter.unusedSimpArgs false
set_option maxRecDepth 100000

def sortRen : Go.Shelf.Ren := ⟨fun | 189 => 24 | 125 => 29 | 257 => 28 | 128 => 40 | 129 => 41 | 294 => 31 | 295 => 32 | 296 => 33 | 297 => 34 | 298 => 35 | 299 => 36 | 216 => 37 | 300 => 38 | 301 => 39 | 328 => 42 | 329 => 43 | 330 => 44 | 331 => 45 | 332 => 46 | 215 => 47 | 343 => 48 | n => n, fun | 28 => 22 | 3 => 3 | 46 => 55 | 0 => 0 | 51 => 67 | 53 => 69 | 4 => 4 | 183 => 59 | 182 => 58 | 131 => 64 | 5 => 5 | 9 => 9 | 218 => 70 | 222 => 74 | 228 => 76 | 229 => 77 | n => n, fun n => n⟩
theorem sortLays : Lays.n189 Try.prog sortRen := {
  mixed := by kernel_rfl
  f125 := Try.func29.trans (congrArg some (by kernel_rfl))
  f128 := Try.func40.trans (congrArg some (by kernel_rfl))
  f129 := Try.func41.trans (congrArg some (by kernel_rfl))
  f189 := Try.func24.trans (congrArg some (by kernel_rfl))
  f215 := Try.func47.trans (congrArg some (by kernel_rfl))
  f216 := Try.func37.trans (congrArg some (by kernel_rfl))
  f257 := Try.func28.trans (congrArg some (by kernel_rfl))
  f294 := Try.func31.trans (congrArg some (by kernel_rfl))
  f295 := Try.func32.trans (congrArg some (by kernel_rfl))
  f296 := Try.func33.trans (congrArg some (by kernel_rfl))
  f297 := Try.func34.trans (congrArg some (by kernel_rfl))
  f298 := Try.func35.trans (congrArg some (by kernel_rfl))
  f299 := Try.func36.trans (congrArg some (by kernel_rfl))
  f300 := Try.func38.trans (congrArg some (by kernel_rfl))
  f301 := Try.func39.trans (congrArg some (by kernel_rfl))
  f328 := Try.func42.trans (congrArg some (by kernel_rfl))
  f329 := Try.func43.trans (congrArg some (by kernel_rfl))
  f330 := Try.func44.trans (congrArg some (by kernel_rfl))
  f331 := Try.func45.trans (congrArg some (by kernel_rfl))
  f332 := Try.func46.trans (congrArg some (by kernel_rfl))
  f343 := Try.func48.trans (congrArg some (by kernel_rfl))
  t0 := Try.underlying0
  a0 := Try.isAgg0
  z0 := Try.sizeOf0
  v0 := Try.zeroValue0
  t3 := Try.underlying3
  a3 := Try.isAgg3
  z3 := Try.sizeOf3
  v3 := Try.zeroValue3
  t4 := Try.underlying4
  a4 := Try.isAgg4
  z4 := Try.sizeOf4
  v4 := Try.zeroValue4
  t5 := Try.underlying5
  a5 := Try.isAgg5
  z5 := Try.sizeOf5
  v5 := Try.zeroValue5
  t9 := Try.underlying9
  a9 := Try.isAgg9
  z9 := Try.sizeOf9
  v9 := Try.zeroValue9
  t28 := Try.underlying22
  a28 := Try.isAgg22
  z28 := Try.sizeOf22
  v28 := Try.zeroValue22
  t46 := Try.underlying55
  a46 := Try.isAgg55
  z46 := Try.sizeOf55
  v46 := Try.zeroValue55
  t51 := Try.underlying67
  a51 := Try.isAgg67
  z51 := Try.sizeOf67
  v51 := Try.zeroValue67
  t53 := Try.underlying69
  a53 := Try.isAgg69
  z53 := Try.sizeOf69
  v53 := Try.zeroValue69
  t131 := Try.underlying64
  a131 := Try.isAgg64
  z131 := Try.sizeOf64
  v131 := Try.zeroValue64
  t182 := Try.underlying58
  a182 := Try.isAgg58
  z182 := Try.sizeOf58
  v182 := Try.zeroValue58
  t183 := Try.underlying59
  a183 := Try.isAgg59
  z183 := Try.sizeOf59
  v183 := Try.zeroValue59
  t218 := Try.underlying70
  a218 := Try.isAgg70
  z218 := Try.sizeOf70
  v218 := Try.zeroValue70
  t222 := Try.underlying74
  a222 := Try.isAgg74
  z222 := Try.sizeOf74
  v222 := Try.zeroValue74
  t228 := Try.underlying76
  a228 := Try.isAgg76
  z228 := Try.sizeOf76
  v228 := Try.zeroValue76
  t229 := Try.underlying77
  a229 := Try.isAgg77
  z229 := Try.sizeOf77
  v229 := Try.zeroValue77 }

def sorted (xs : List Int) : List Int := xs.mergeSort fun x y => decide (x ≤ y)
theorem sorted_len (xs : List Int) : (sorted xs).length = xs.length := by simp [sorted]
theorem sorted_perm (xs : List Int) : (sorted xs).Perm xs := List.mergeSort_perm _ _

/-- slices.Sort of a list that is not empty. -/
theorem spec24 {xs : List Int} {m : Nat} (hm : xs.length = m) (h0 : 0 < m) (hb : m ≤ 1048576) : FnSpec Try.prog 24 [.own 0 m] [(bk 0, .blk (.app 1 m [.ints .i64 xs]))] (.tup []) [(bk 0, .blk (.app 1 m [.ints .i64 (sorted xs)]))] [0] := by
  intro V M w passed vs hw hd
  have hg : St.get [(bk 0, Cont.blk (.app 1 m [.ints .i64 xs]))] (bk 0) = some (.blk (.app 1 m [.ints .i64 xs])) := rfl
  have hB := hw.blks 0 _ hg
  obtain ⟨_, _, h3⟩ := hB
  have hl : vs.length = 1 := hd.len.symm
  obtain ⟨v, rfl⟩ : ∃ v, vs = [v] := by
    cases vs with
    | nil => simp at hl
    | cons v r => cases r with
      | nil => exact ⟨v, rfl⟩
      | cons _ _ => simp at hl
  have hv : Den V M (.own 0 m) v := hd.at' 0 _ _ rfl rfl
  cases hk : V.κ 0 with
  | none => rw [hk] at h3; simp only at h3; omega
  | some cap =>
    rw [hk] at h3
    obtain ⟨hcap, us, t, hh, hs, _, hcl, hrow⟩ := h3
    cases hv with
    | ownNil _ hk' => omega
    | own _ _ cap' hk' hc' =>
      have hcell : ∀ j, j < m → us[j]? = some (.int .i64 (xs.getD j 0)) := fun j hj => by
        obtain ⟨u, hu, hdu⟩ := hrow j 0 _ hj rfl
        cases hdu
        simpa using hu
      have hlt : V.ρ 0 < w.heap.size := hw.bd 0 ⟨⟨_, hg⟩, by rw [hk]; simp⟩
      have hH : Go.Sort.Holds (Value.int .i64) w (V.ρ 0) 0 xs.toArray := fun j hj => by
        have hj : j < m := by simpa [hm] using hj
        refine ⟨?_, ?_⟩
        · simp only [World.cell?, hh, Nat.zero_add]
          rw [hcell j hj]
          congr 2
          have hjx : j < xs.length := by omega
          simp [List.getD_eq_getElem?_getD, hjx]
        · simp [World.frozen?, hh]
      have hc := Any.slices_Sort_int sortLays (V.ρ 0) 0 cap' xs w hH hlt (by omega)
      rw [hm] at hc
      refine hc.mono ?_
      rintro e w' ⟨rfl, n, os, rfl⟩
      have hsz : us.size = cap := by simpa using hs
      have hheap : (Go.Sort.grow (Go.Sort.putRow (Value.int .i64) (Go.Sort.ahead w n) (V.ρ 0) 0 (sorted xs).toArray) os).heap[V.ρ 0]? = some (.cells (Go.Sort.putCells (Value.int .i64) 0 (sorted xs).toArray us) t (0, 0)) := by
        have hlt2 : V.ρ 0 < ((Go.Sort.ahead w n).heap.modify (V.ρ 0) (Go.Sort.onCells (Go.Sort.putCells (Value.int .i64) 0 (sorted xs).toArray))).size := by simpa [Go.Sort.ahead] using hlt
        show ((((Go.Sort.ahead w n).heap.modify (V.ρ 0) (Go.Sort.onCells (Go.Sort.putCells (Value.int .i64) 0 (sorted xs).toArray))) ++ os)[V.ρ 0]?) = _
        rw [Array.getElem?_append_left hlt2, Array.getElem?_modify, if_pos rfl]
        show Option.map _ (w.heap[V.ρ 0]?) = _
        rw [hh]; rfl
      refine ⟨.tuple #[], V, M, rfl, .tup [] [] rfl (by intro j x y h; simp at h), ?_⟩
      have hst : WStep w (Go.Sort.grow (Go.Sort.putRow (Value.int .i64) (Go.Sort.ahead w n) (V.ρ 0) 0 (sorted xs).toArray) os) (V.ρ 0) := by
        have hsize : ((Go.Sort.ahead w n).heap.modify (V.ρ 0) (Go.Sort.onCells (Go.Sort.putCells (Value.int .i64) 0 (sorted xs).toArray))).size = w.heap.size := by simp [Go.Sort.ahead]
        refine ⟨rfl, rfl, rfl, ?_, fun b hb hbl => ?_, ?_⟩
        · show _ ≤ (_ ++ os).size
          rw [Array.size_append]; simp [Go.Sort.ahead, Go.Sort.putRow, Go.Sort.mapBlock]
        · show ((((Go.Sort.ahead w n).heap.modify (V.ρ 0) (Go.Sort.onCells (Go.Sort.putCells (Value.int .i64) 0 (sorted xs).toArray))) ++ os)[b]?) = _
          rw [Array.getElem?_append_left (by omega), Array.getElem?_modify, if_neg (Ne.symm hb)]
          rfl
        · show _ < (_ ++ os).size
          rw [Array.size_append]; simp [Go.Sort.ahead, Go.Sort.putRow, Go.Sort.mapBlock]; omega
      have hB' : BlkAt V M (Go.Sort.grow (Go.Sort.putRow (Value.int .i64) (Go.Sort.ahead w n) (V.ρ 0) 0 (sorted xs).toArray) os) 0 (.app 1 m [.ints .i64 (sorted xs)]) := by
        have hsl := sorted_len xs
        refine ⟨rfl, fun c hc => ?_, ?_⟩
        · simp only [List.mem_singleton] at hc; subst hc; show (sorted xs).length = m; omega
        · rw [hk]
          refine ⟨hcap, _, t, hheap, by simp [Go.Sort.putCells, hs], rfl, fun c hc => ?_, fun i j c hi hc => ?_⟩
          · simp only [List.mem_singleton] at hc; subst hc; show (sorted xs).length = m; omega
          · cases j with
            | succ j => simp at hc
            | zero =>
              simp only [List.getElem?_cons_zero, Option.some.injEq] at hc
              subst hc
              refine ⟨_, ?_, .v _⟩
              have hui := hcell i hi
              have hil : i < (sorted xs).length := by omega
              simp only [Go.Sort.putCells, Nat.mul_one, Nat.add_zero, Array.getElem?_mapIdx, hui, Option.map_some, List.size_toArray, Nat.zero_le, true_and, Nat.zero_add, hil, if_true, Nat.sub_zero]
              congr 2
              simp [List.getD_eq_getElem?_getD, hil]
      exact repW_write hw hg (by rw [hk]; simp) hst hB'

end Go.Proofs.Ytcnikeonaklkoaa

