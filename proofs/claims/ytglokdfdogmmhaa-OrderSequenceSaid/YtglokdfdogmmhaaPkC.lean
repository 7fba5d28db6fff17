import Derived.Test.YtglokdfdogmmhaaPkH
import Derived.Shelf.Sort.Plain
import Derived.KernelRfl
import Derived.Test.YtglokdfdogmmhaaPkB
import Derived.Test.YtglokdfdogmmhaaPkG
/- slices.Sort at []int, by the library's own contract, laid at this program. -/
namespace Go.Proofs.Ytglokdfdogmmhaa
open Go Go.Shelf
set_option linter.unusedVariables false
set_option linter.unusedSimpArgs false
set_option maxRecDepth 100000

def sortRen : Go.Shelf.Ren := ⟨fun | 189 => 40 | 125 => 53 | 257 => 52 | 128 => 66 | 129 => 67 | 294 => 57 | 295 => 58 | 296 => 59 | 297 => 60 | 298 => 61 | 299 => 62 | 216 => 63 | 300 => 64 | 301 => 65 | 328 => 77 | 329 => 78 | 330 => 79 | 331 => 80 | 332 => 81 | 215 => 82 | 343 => 86 | n => n, fun | 28 => 22 | 3 => 3 | 46 => 78 | 0 => 0 | 51 => 90 | 53 => 92 | 4 => 4 | 183 => 83 | 182 => 82 | 131 => 87 | 5 => 5 | 9 => 9 | 218 => 98 | 222 => 102 | 228 => 106 | 229 => 107 | n => n, fun n => n⟩
theorem sortLays : Lays.n189 Try.prog sortRen := {
  mixed := by kernel_rfl
  f125 := Try.func53.trans (congrArg some (by kernel_rfl))
  f128 := Try.func66.trans (congrArg some (by kernel_rfl))
  f129 := Try.func67.trans (congrArg some (by kernel_rfl))
  f189 := Try.func40.trans (congrArg some (by kernel_rfl))
  f215 := Try.func82.trans (congrArg some (by kernel_rfl))
  f216 := Try.func63.trans (congrArg some (by kernel_rfl))
  f257 := Try.func52.trans (congrArg some (by kernel_rfl))
  f294 := Try.func57.trans (congrArg some (by kernel_rfl))
  f295 := Try.func58.trans (congrArg some (by kernel_rfl))
  f296 := Try.func59.trans (congrArg some (by kernel_rfl))
  f297 := Try.func60.trans (congrArg some (by kernel_rfl))
  f298 := Try.func61.trans (congrArg some (by kernel_rfl))
  f299 := Try.func62.trans (congrArg some (by kernel_rfl))
  f300 := Try.func64.trans (congrArg some (by kernel_rfl))
  f301 := Try.func65.trans (congrArg some (by kernel_rfl))
  f328 := Try.func77.trans (congrArg some (by kernel_rfl))
  f329 := Try.func78.trans (congrArg some (by kernel_rfl))
  f330 := Try.func79.trans (congrArg some (by kernel_rfl))
  f331 := Try.func80.trans (congrArg some (by kernel_rfl))
  f332 := Try.func81.trans (congrArg some (by kernel_rfl))
  f343 := Try.func86.trans (congrArg some (by kernel_rfl))
  t0 := Try.underlying0
  a0 := Try.isAgg0
  z0 := Try.sizeOf0
  v0 := Try.zeroValue0
  t3 := Try.underlying3
  a3 := Try.isAgg3
  z3 := Try.sizeOf3
  v3 := Try.zeroValue3
  t4 := Try.underlying4
  a4 := Try.isAgg4
  z4 := Try.sizeOf4
  v4 := Try.zeroValue4
  t5 := Try.underlying5
  a5 := Try.isAgg5
  z5 := Try.sizeOf5
  v5 := Try.zeroValue5
  t9 := Try.underlying9
  a9 := Try.isAgg9
  z9 := Try.sizeOf9
  v9 := Try.zeroValue9
  t28 := Try.underlying22
  a28 := Try.isAgg22
  z28 := Try.sizeOf22
  v28 := Try.zeroValue22
  t46 := Try.underlying78
  a46 := Try.isAgg78
  z46 := Try.sizeOf78
  v46 := Try.zeroValue78
  t51 := Try.underlying90
  a51 := Try.isAgg90
  z51 := Try.sizeOf90
  v51 := Try.zeroValue90
  t53 := Try.underlying92
  a53 := Try.isAgg92
  z53 := Try.sizeOf92
  v53 := Try.zeroValue92
  t131 := Try.underlying87
  a131 := Try.isAgg87
  z131 := Try.sizeOf87
  v131 := Try.zeroValue87
  t182 := Try.underlying82
  a182 := Try.isAgg82
  z182 := Try.sizeOf82
  v182 := Try.zeroValue82
  t183 := Try.underlying83
  a183 := Try.isAgg83
  z183 := Try.sizeOf83
  v183 := Try.zeroValue83
  t218 := Try.underlying98
  a218 := Try.isAgg98
  z218 := Try.sizeOf98
  v218 := Try.zeroValue98
  t222 := Try.underlying102
  a222 := Try.isAgg102
  z222 := Try.sizeOf102
  v222 := Try.zeroValue102
  t228 := Try.underlying106
  a228 := Try.isAgg106
  z228 := Try.sizeOf106
  v228 := Try.zeroValue106
  t229 := Try.underlying107
  a229 := Try.isAgg107
  z229 := Try.sizeOf107
  v229 := Try.zeroValue107 }

def sorted (xs : List Int) : List Int := xs.mergeSort fun x y => decide (x ≤ y)
theorem sorted_len (xs : List Int) : (sorted xs).length = xs.length := by simp [sorted]
theorem sorted_perm (xs : List Int) : (sorted xs).Perm xs := List.mergeSort_perm _ _

/-- slices.Sort of a list that is not empty. -/
theorem spec40 {xs : List Int} {m : Nat} (hm : xs.length = m) (h0 : 0 < m) (hb : m ≤ 1048576) : FnSpec Try.prog 40 [.own 0 m] [(bk 0, .blk (.app 1 m [.ints .i64 xs]))] (.tup []) [(bk 0, .blk (.app 1 m [.ints .i64 (sorted xs)]))] [0] := by
  intro V M w passed vs hw hd
  have hg : St.get [(bk 0, Cont.blk (.app 1 m [.ints .i64 xs]))] (bk 0) = some (.blk (.app 1 m [.ints .i64 xs])) := rfl
  have hB := hw.blks 0 _ hg
  obtain ⟨_, _, h3⟩ := hB
  have hl : vs.length = 1 := hd.len.symm
  obtain ⟨v, rfl⟩ : ∃ v, vs = [v] := by
    cases vs with
    | nil => simp at hl
    | cons v r => cases r with
      | nil => exact ⟨v, rfl⟩
      | cons _ _ => simp at hl
  have hv : Den V M (.own 0 m) v := hd.at' 0 _ _ rfl rfl
  cases hk : V.κ 0 with
  | none => rw [hk] at h3; simp only at h3; omega
  | some cap =>
    rw [hk] at h3
    obtain ⟨hcap, us, t, hh, hs, _, hcl, hrow⟩ := h3
    cases hv with
    | ownNil _ hk' => omega
    | own _ _ cap' hk' hc' =>
      have hcell : ∀ j, j < m → us[j]? = some (.int .i64 (xs.getD j 0)) := fun j hj => by
        obtain ⟨u, hu, hdu⟩ := hrow j 0 _ hj rfl
        cases hdu
        simpa using hu
      have hlt : V.ρ 0 < w.heap.size := hw.bd 0 ⟨⟨_, hg⟩, by rw [hk]; simp⟩
      have hH : Go.Sort.Holds (Value.int .i64) w (V.ρ 0) 0 xs.toArray := fun j hj => by
        have hj : j < m := by simpa [hm] using hj
        refine ⟨?_, ?_⟩
        · simp only [World.cell?, hh, Nat.zero_add]
          rw [hcell j hj]
          congr 2
          have hjx : j < xs.length := by omega
          simp [List.getD_eq_getElem?_getD, hjx]
        · simp [World.frozen?, hh]
      have hc := Any.slices_Sort_int sortLays (V.ρ 0) 0 cap' xs w hH hlt (by omega)
      rw [hm] at hc
      refine hc.mono ?_
      rintro e w' ⟨rfl, n, os, rfl⟩
      have hsz : us.size = cap := by simpa using hs
      have hheap : (Go.Sort.grow (Go.Sort.putRow (Value.int .i64) (Go.Sort.ahead w n) (V.ρ 0) 0 (sorted xs).toArray) os).heap[V.ρ 0]? = some (.cells (Go.Sort.putCells (Value.int .i64) 0 (sorted xs).toArray us) t (0, 0)) := by
        have hlt2 : V.ρ 0 < ((Go.Sort.ahead w n).heap.modify (V.ρ 0) (Go.Sort.onCells (Go.Sort.putCells (Value.int .i64) 0 (sorted xs).toArray))).size := by simpa [Go.Sort.ahead] using hlt
        show ((((Go.Sort.ahead w n).heap.modify (V.ρ 0) (Go.Sort.onCells (Go.Sort.putCells (Value.int .i64) 0 (sorted xs).toArray))) ++ os)[V.ρ 0]?) = _
        rw [Array.getElem?_append_left hlt2, Array.getElem?_modify, if_pos rfl]
        show Option.map _ (w.heap[V.ρ 0]?) = _
        rw [hh]; rfl
      refine ⟨.tuple #[], V, M, rfl, .tup [] [] rfl (by intro j x y h; simp at h), ?_⟩
      have hst : WStep w (Go.Sort.grow (Go.Sort.putRow (Value.int .i64) (Go.Sort.ahead w n) (V.ρ 0) 0 (sorted xs).toArray) os) (V.ρ 0) := by
        have hsize : ((Go.Sort.ahead w n).heap.modify (V.ρ 0) (Go.Sort.onCells (Go.Sort.putCells (Value.int .i64) 0 (sorted xs).toArray))).size = w.heap.size := by simp [Go.Sort.ahead]
        refine ⟨rfl, rfl, rfl, ?_, fun b hb hbl => ?_, ?_⟩
        · show _ ≤ (_ ++ os).size
          rw [Array.size_append]; simp [Go.Sort.ahead, Go.Sort.putRow, Go.Sort.mapBlock]
        · show ((((Go.Sort.ahead w n).heap.modify (V.ρ 0) (Go.Sort.onCells (Go.Sort.putCells (Value.int .i64) 0 (sorted xs).toArray))) ++ os)[b]?) = _
          rw [Array.getElem?_append_left (by omega), Array.getElem?_modify, if_neg (Ne.symm hb)]
          rfl
        · show _ < (_ ++ os).size
          rw [Array.size_append]; simp [Go.Sort.ahead, Go.Sort.putRow, Go.Sort.mapBlock]; omega
      have hB' : BlkAt V M (Go.Sort.grow (Go.Sort.putRow (Value.int .i64) (Go.Sort.ahead w n) (V.ρ 0) 0 (sorted xs).toArray) os) 0 (.app 1 m [.ints .i64 (sorted xs)]) := by
        have hsl := sorted_len xs
        refine ⟨rfl, fun c hc => ?_, ?_⟩
        · simp only [List.mem_singleton] at hc; subst hc; show (sorted xs).length = m; omega
        · rw [hk]
          refine ⟨hcap, _, t, hheap, by simp [Go.Sort.putCells, hs], rfl, fun c hc => ?_, fun i j c hi hc => ?_⟩
          · simp only [List.mem_singleton] at hc; subst hc; show (sorted xs).length = m; omega
          · cases j with
            | succ j => simp at hc
            | zero =>
              simp only [List.getElem?_cons_zero, Option.some.injEq] at hc
              subst hc
              refine ⟨_, ?_, .v _⟩
              have hui := hcell i hi
              have hil : i < (sorted xs).length := by omega
              simp only [Go.Sort.putCells, Nat.mul_one, Nat.add_zero, Array.getElem?_mapIdx, hui, Option.map_some, List.size_toArray, Nat.zero_le, true_and, Nat.zero_add, hil, if_true, Nat.sub_zero]
              congr 2
              simp [List.getD_eq_getElem?_getD, hil]
      exact repW_write hw hg (by rw [hk]; simp) hst hB'

end Go.Proofs.Ytglokdfdogmmhaa


/- arrange. -/
namespace Go.Proofs.Ytglokdfdogmmhaa
open Go
set_option linter.unusedVariables false
set_option linter.unusedSimpArgs false
set_option maxRecDepth 10000
set_option maxHeartbeats 2000000

theorem but_del {S : St} {rows : List (List Int)} {f n : Nat} (h : (famBut rows f).le S) (hn : Nat.blt n 800 = true) : (famBut rows f).le (St.del n S) := fun m c e => by
  rw [St.get_del, if_neg (fun e2 => by rw [← e2, but_small (Nat.le_of_ble_eq_true hn)] at e; cases e)]
  exact h m c e
theorem sorted_isort (l : List Int) : sorted l = isort l := by
  refine isort_eq (sorted_perm l) ((List.pairwise_mergeSort (fun a b c h1 h2 => ?_) (fun a b => ?_) _).imp fun {a b} h => ?_)
  · simp only [decide_eq_true_eq] at *; omega
  · simp only [Bool.or_eq_true, decide_eq_true_eq]; omega
  · simpa using h
theorem bif_and2 (a b : Bool) : (bif a then b else false) = (a && b) := by cases a <;> rfl
theorem rep0_at (n j : Nat) : (List.replicate n (0 : Int)).getD j 0 = 0 := by simp [List.getD_eq_getElem?_getD, List.getElem?_replicate]; split <;> rfl
/-- soundpost/order.arrange -/
theorem spec29 {g : Gr} (h : g.OK) (hn12 : g.lat.length ≤ 12) {part : List Int} (hpl : part.length = g.lat.length) {all : RL} (h12 : all.length ≤ 12) (hall : ∀ r ∈ all, 0 < r.length ∧ r.length ≤ 1048576 ∧ ∀ x ∈ r, 0 ≤ x ∧ x.toNat < g.lat.length) (hpt : ∀ v, v < g.lat.length → 0 ≤ part.getD v 0 ∧ (part.getD v 0).toNat < all.length + 1) {out : RL} (hout : g.arrP part all = some out) : FnSpec Try.prog 29 [g.av, .own 54 g.lat.length, .own 12 all.length] ((bk 54, .blk (.app 1 g.lat.length [.ints .i64 part])) :: (bk 12, .blk (.appv (matC all))) :: pad all) (.d (nextD out)) [] [] := by
  have hn1 := h.n
  have hm1 := h.m
  refine fnSpec_of (rs := [.tmp 6]) Try.func29 rfl rfl (Nat.le_of_ble_eq_true rfl) (odd_of rfl) fun E hk hn => ?_
  apply WPA.seq
  refine WPA.weaken (T := (sl 0, .av (g.av)) :: (sl 1, .av (.own 54 g.lat.length)) :: (sl 2, .av (.own 12 all.length)) :: (bk 54, .blk (.app 1 g.lat.length [.ints .i64 part])) :: (bk 12, .blk (.appv (matC all))) :: fam all) ?_ (St.le_cons rfl (St.le_cons rfl (St.le_cons rfl (St.le_cons rfl (St.le_cons rfl ((show St.le (fam all) ((sl 0, .av (g.av)) :: (sl 1, .av (.own 54 g.lat.length)) :: (sl 2, .av (.own 12 all.length)) :: (bk 54, .blk (.app 1 g.lat.length [.ints .i64 part])) :: (bk 12, .blk (.appv (matC all))) :: pad all) from by repeat (first | exact fam_pad h12 | refine le_skip ?_ rfl))))))))
  apply WPA.region
  · apply Trace.boxD 3 [] (.plain rfl) rfl (freshB_of (fun l hl => by
        simp only [List.mem_singleton] at hl; subst hl
        repeat (first | exact nm_fam | refine nm_appv (matC_ment (by decide)) ?_ | refine nm_cons rfl ?_)))
    apply Trace.box 4 [] (.plain rfl) rfl rfl (freshB_of (fun l hl => by
        simp only [List.mem_singleton] at hl; subst hl
        repeat (first | exact nm_fam | refine nm_appv (matC_ment (by decide)) ?_ | refine nm_cons rfl ?_)))
    apply Trace.pu [] (.assign (.plain rfl))
    exact .nil _
  · repeat (first | exact keepOK_nil | refine keepOK_cons (by first | exact axOK_of hk hn rfl | exact axOK_blk) ?_)
  apply WPA.seq
  apply WPA.seq
  apply WPA.region
  · apply Trace.pu [] (.move (.plain rfl))
    apply Trace.pu [] (.len rfl Try.underlying28 (.plain rfl) rfl)
    apply Trace.pu [] (.move (.plain rfl))
    exact .nil _
  · exact keepOK_of hk hn rfl
  apply WPA.block
  refine WPA.loop (σ := Nat) (fun i => (sl 2, .av (.own 12 all.length)) :: (sl 3, .av (.loc 3 0)) :: (sl 4, .av (.loc 4 0)) :: (sl 6, .av (.d (.v (.slice none 0 0)))) :: (sl 17, .av (.own 12 all.length)) :: (sl 18, .av (iv .i64 (all.length))) :: (sl 19, .av (iv .i64 (i))) :: (bk 3, .blk (.data g.ds)) :: (bk 4, .blk (.cells [.own 54 g.lat.length])) :: (bk 54, .blk (.app 1 g.lat.length [.ints .i64 part])) :: (bk 12, .blk (.appv (matC (srtTo all i)))) :: fam (srtTo all i)) (fun i => i ≤ all.length) (fun i => all.length - i) 0
    (St.le_cons rfl (St.le_cons rfl (St.le_cons rfl (St.le_cons rfl (St.le_cons rfl (St.le_cons rfl (St.le_cons rfl (St.le_cons rfl (St.le_cons rfl (St.le_cons rfl (St.le_cons rfl ((by repeat (first | exact St.le_refl _ | refine le_skip ?_ rfl)))))))))))))) (Nat.zero_le _) fun i hi => ?_
  apply WPA.seq
  apply WPA.region
  · apply Trace.pu [] (.cmp (.plain rfl) (.plain rfl) rfl)
    exact .nil _
  · exact keepOK_of hk hn rfl
  apply WPA.seq
  refine WPA.cond rfl (fun hc1 => ?_) (fun hc1 => ?_)
  · have hlt : i < all.length := by simpa using hc1
    obtain ⟨rows, hrows⟩ : ∃ rows, srtTo all i = rows := ⟨_, rfl⟩
    have hrl : rows.length = all.length := hrows ▸ srtTo_len all i
    have hfl : i < rows.length := by omega
    have hri : rows.getD i [] = all.getD i [] := by
      have := srtTo_at all i hi i
      rw [if_neg (by omega), hrows] at this; exact this
    have hal := hall _ (getD_in [] hlt)
    rw [← hri] at hal
    have hsx : srtTo all (i + 1) = rows.set i (isort (rows.getD i [])) := by rw [hri, ← hrows]; rfl
    rw [hrows]
    have hcell := matC_get hfl
    apply WPA.skip
    apply WPA.seq
    apply WPA.block
    apply WPA.seq
    refine WPA.weaken (T := (sl 2, .av (.own 12 all.length)) :: (sl 3, .av (.loc 3 0)) :: (sl 4, .av (.loc 4 0)) :: (sl 6, .av (.d (.v (.slice none 0 0)))) :: (sl 17, .av (.own 12 all.length)) :: (sl 18, .av (iv .i64 (all.length))) :: (sl 19, .av (iv .i64 (i))) :: (bk 3, .blk (.data g.ds)) :: (bk 4, .blk (.cells [.own 54 g.lat.length])) :: (bk 54, .blk (.app 1 g.lat.length [.ints .i64 part])) :: (bk 12, .blk (.appv (matC rows))) :: fam rows) ?_ (St.le_cons rfl (St.le_cons rfl (St.le_cons rfl (St.le_cons rfl (St.le_cons rfl (St.le_cons rfl (St.le_cons rfl (St.le_cons rfl (St.le_cons rfl (St.le_cons rfl (St.le_cons rfl ((by repeat (first | exact St.le_refl _ | refine le_skip ?_ rfl))))))))))))))
    refine WPA.ghost (Ghost.alias' (L := 12) (i := i) (a := inn i) (b := 95) (S' := (sl 2, .av (.own 12 all.length)) :: (sl 3, .av (.loc 3 0)) :: (sl 4, .av (.loc 4 0)) :: (sl 6, .av (.d (.v (.slice none 0 0)))) :: (sl 17, .av (.own 12 all.length)) :: (sl 18, .av (iv .i64 (all.length))) :: (sl 19, .av (iv .i64 (i))) :: (bk 3, .blk (.data g.ds)) :: (bk 4, .blk (.cells [.own 54 g.lat.length])) :: (bk 54, .blk (.app 1 g.lat.length [.ints .i64 part])) :: famBut rows i) rfl hcell (by repeat (first | exact fam_get hfl | refine get_skip ?_ rfl)) (by unfold inn; omega) (fam_small (by decide)) (by repeat (first | exact nm_fam | refine nm_appv (matC_ment (by decide)) ?_ | refine nm_cons rfl ?_)) (by rw [hk]; simp) (St.le_cons rfl (St.le_cons rfl (St.le_cons rfl (St.le_cons rfl (St.le_cons rfl (St.le_cons rfl (St.le_cons rfl (St.le_cons rfl (St.le_cons rfl (St.le_cons rfl ((by repeat (first | exact but_le | refine but_skip ?_ rfl))))))))))))) (by repeat (first | exact but_self | refine get_skip ?_ rfl))) ?_
    have hcell2 : ((matC rows).set i (.own 95 (rows.getD i []).length))[i]? = some (.own 95 (rows.getD i []).length) := List.getElem?_set_self (by rw [matC_length]; exact hfl)
    apply WPA.region
    · first | apply Trace.pu [] (.indexRows el28 (.plain rfl) (.plain rfl) (fun _ => ⟨by omega, by omega⟩)) | apply Trace.pu [] (.indexOwn el28 (.plain rfl) (.plain rfl) (fun _ => ⟨by omega, by omega⟩)) | apply Trace.pu [] (.indexSl el28 (.plain rfl) (.plain rfl) (fun _ => ⟨by omega, by omega⟩))
      apply Trace.pu [12] (.loadRowV ty22 (.plain rfl) rfl (fun _ => hcell2))
      apply Trace.pu [] (.assign (.plain rfl))
      exact .nil _
    · exact keepOK_of hk hn rfl
    apply WPA.region
    · apply Trace.pu [] (.move (.plain rfl))
      apply Trace.cb [] [bk 95] (callArgs0 (.cons (.plain rfl) .nil)) ((spec40 (xs := rows.getD i []) rfl hal.1 hal.2.1).as 0 95 rfl rfl rfl rfl rfl rfl rfl) en40 (.cons rfl .nil) rfl rfl
      exact .nil _
    · exact keepOK_of hk hn rfl
    refine WPA.weaken (T := (sl 2, .av (.own 12 all.length)) :: (sl 3, .av (.loc 3 0)) :: (sl 4, .av (.loc 4 0)) :: (sl 6, .av (.d (.v (.slice none 0 0)))) :: (sl 17, .av (.own 12 all.length)) :: (sl 18, .av (iv .i64 (all.length))) :: (sl 19, .av (iv .i64 (i))) :: (bk 3, .blk (.data g.ds)) :: (bk 4, .blk (.cells [.own 54 g.lat.length])) :: (bk 54, .blk (.app 1 g.lat.length [.ints .i64 part])) :: (bk 12, .blk (.appv ((matC rows).set i (.own 95 (rows.getD i []).length)))) :: (bk 95, .blk (.app 1 (rows.getD i []).length [.ints .i64 (isort (rows.getD i []))])) :: famBut rows i) ?_ (St.le_cons rfl (St.le_cons rfl (St.le_cons rfl (St.le_cons rfl (St.le_cons rfl (St.le_cons rfl (St.le_cons rfl (St.le_cons rfl (St.le_cons rfl (St.le_cons rfl (St.le_cons rfl (St.le_cons (by rw [← sorted_isort]; rfl) ((by repeat (first | exact St.le_refl _ | exact but_le | refine but_skip ?_ rfl | refine but_del ?_ rfl)))))))))))))))
    refine WPA.ghost (Ghost.alias' (L := 12) (i := i) (a := 95) (b := inn i) (S' := (sl 2, .av (.own 12 all.length)) :: (sl 3, .av (.loc 3 0)) :: (sl 4, .av (.loc 4 0)) :: (sl 6, .av (.d (.v (.slice none 0 0)))) :: (sl 17, .av (.own 12 all.length)) :: (sl 18, .av (iv .i64 (all.length))) :: (sl 19, .av (iv .i64 (i))) :: (bk 3, .blk (.data g.ds)) :: (bk 4, .blk (.cells [.own 54 g.lat.length])) :: (bk 54, .blk (.app 1 g.lat.length [.ints .i64 part])) :: famBut rows i) rfl hcell2 rfl (by decide) (by repeat (first | exact but_self | refine get_skip ?_ rfl)) (by repeat (first | exact nm_but | refine nm_appv (matC_but (by decide)) ?_ | refine nm_cons rfl ?_)) (by rw [hk]; simp) (St.le_cons rfl (St.le_cons rfl (St.le_cons rfl (St.le_cons rfl (St.le_cons rfl (St.le_cons rfl (St.le_cons rfl (St.le_cons rfl (St.le_cons rfl (St.le_cons rfl ((by repeat (first | exact St.le_refl _ | exact but_le | refine but_skip ?_ rfl | refine but_del ?_ rfl))))))))))))) (but_small (by decide))) ?_
    apply WPA.region
    · apply Trace.pu [] (.arith (.plain rfl) (.plain rfl) rfl (fun _ => bd64 (by omega)))
      apply Trace.pu [] (.move (.plain rfl))
      exact .nil _
    · exact keepOK_of hk hn rfl
    refine ⟨i + 1, by omega, by omega, ?_⟩
    rw [hsx]
    exact (St.le_cons rfl (St.le_cons rfl (St.le_cons rfl (St.le_cons rfl (St.le_cons rfl (St.le_cons rfl (St.le_cons (slI (by omega)) (St.le_cons rfl (St.le_cons rfl (St.le_cons rfl (St.le_cons (appv_eq (by rw [List.set_set, ← matC_put, isort_len])) ((by repeat (first | exact but_back (by repeat (first | exact St.le_refl _ | exact but_le | refine but_skip ?_ rfl | refine but_del ?_ rfl)) (isort_len _) | refine le_skip ?_ rfl))))))))))))))
  · have him : i = all.length := by
      have : ¬ ((i : Int) < all.length) := by simpa using hc1
      omega
    subst him
    rw [srtTo_all]
    obtain ⟨rs, hrs⟩ : ∃ rs, all.map isort = rs := ⟨_, rfl⟩
    have hrsl : rs.length = all.length := by rw [← hrs, List.length_map]
    rw [hrs]
    refine WPA.weaken (T := (sl 2, .av (.own 12 all.length)) :: (sl 3, .av (.loc 3 0)) :: (sl 4, .av (.loc 4 0)) :: (sl 6, .av (.d (.v (.slice none 0 0)))) :: (bk 3, .blk (.data g.ds)) :: (bk 4, .blk (.cells [.own 54 g.lat.length])) :: (bk 54, .blk (.app 1 g.lat.length [.ints .i64 part])) :: (bk 12, .blk (.appv (matC rs))) :: fam rs) ?_ (St.le_cons rfl (St.le_cons rfl (St.le_cons rfl (St.le_cons rfl (St.le_cons rfl (St.le_cons rfl (St.le_cons rfl (St.le_cons rfl ((by repeat (first | exact St.le_refl _ | refine le_skip ?_ rfl)))))))))))
    refine WPA.ghost (Ghost.famFreeze (l := 12) (rows := rs) (S' := [(sl 2, .av (.own 12 all.length)), (sl 3, .av (.loc 3 0)), (sl 4, .av (.loc 4 0)), (sl 6, .av (.d (.v (.slice none 0 0)))), (bk 3, .blk (.data g.ds)), (bk 4, .blk (.cells [.own 54 g.lat.length])), (bk 54, .blk (.app 1 g.lat.length [.ints .i64 part]))]) (by decide) rfl (by repeat (first | exact St.le_refl _ | refine le_skip ?_ rfl)) (St.le_cons rfl (St.le_cons rfl (St.le_cons rfl (St.le_cons rfl (St.le_cons rfl (St.le_cons rfl (St.le_cons rfl (St.le_nil _)))))))) (fun i => by repeat (first | rfl | refine get_skip ?_ rfl))) ?_
    refine WPA.weaken (T := [(sl 2, .av (.own 12 all.length)), (sl 3, .av (.loc 3 0)), (sl 4, .av (.loc 4 0)), (sl 6, .av (.d (.v (.slice none 0 0)))), (bk 3, .blk (.data g.ds)), (bk 4, .blk (.cells [.own 54 g.lat.length])), (bk 54, .blk (.app 1 g.lat.length [.ints .i64 part])), (bk 12, .blk (.appv ((rs.map rowD).map .d)))]) ?_ (St.le_cons rfl (St.le_cons rfl (St.le_cons rfl (St.le_cons rfl (St.le_cons rfl (St.le_cons rfl (St.le_cons rfl (St.le_cons (appv_eq (by rw [List.map_map]; rfl)) (St.le_nil _)))))))))
    refine WPA.ghost (Ghost.fromAppv (l := 12) (n := all.length) rfl (by rw [List.length_map]; exact hrsl)) ?_
    refine WPA.ghost (Ghost.freezeAs (t := 2) (l := 12) (g := fun i => [rowD (rs.getD i [])]) rfl rfl (fun i hi => by show [Col.at (.ds (dsC rs)) i] = _; rw [dsC_at (by omega)])) ?_
    refine WPA.weaken (T := [(sl 2, .av (.d (nextD rs))), (sl 3, .av (.loc 3 0)), (sl 4, .av (.loc 4 0)), (sl 6, .av (.d (.v (.slice none 0 0)))), (bk 3, .blk (.data g.ds)), (bk 4, .blk (.cells [.own 54 g.lat.length])), (bk 54, .blk (.app 1 g.lat.length [.ints .i64 part]))]) ?_ (St.le_cons (by show some (Cont.av (.d (.rows 1 all.length _))) = some (Cont.av (.d (.rows 1 rs.length _))); rw [hrsl]) (St.le_cons rfl (St.le_cons rfl (St.le_cons rfl (St.le_cons rfl (St.le_cons rfl (St.le_cons rfl (St.le_nil _))))))))
    apply WPA.exit
    apply WPA.seq
    apply WPA.region
    · apply Trace.pu [] (.move (.plain rfl))
      apply Trace.pu [] (.len rfl Try.underlying28 (.plain rfl) rfl)
      apply Trace.pu [] ((Pure.arith (.plain rfl) (.plain rfl) rfl (fun _ => bd64 (by omega))).to (y := iv .i64 ((all.length + 1 : Nat) : Int)) (congrArg (iv .i64) (by show (rs.length : Int) + 1 = _; omega)))
      apply Trace.makeSlice 98 [] so22 by3 zo3 rfl (by decide) (.plain rfl) (.plain rfl) ⟨by omega, by omega⟩ (by omega) (by omega) rfl rfl
      apply Trace.alloc 9 [] (.data _) zo22 (cellsAs_data _) rfl
      first | apply Trace.storeD ty22 (.plain rfl) (.plain rfl) rfl rfl rfl (by simp [AV.oneB, single]) (Nat.le_of_ble_eq_true rfl) rfl | apply Trace.storeDA ty22 (.plain rfl) (.plain rfl) rfl rfl rfl (by simp [AV.oneB, single]) (Nat.le_of_ble_eq_true rfl) rfl | apply Trace.storeLoc ty22 (.plain rfl) (.plain rfl) rfl rfl rfl (by simp [AV.oneB, single]) (Nat.le_of_ble_eq_true rfl) rfl | apply Trace.storeRow ty22 (.plain rfl) (.plain rfl) rfl rfl rfl rfl (by decide) (by simp [AV.oneB, single]) rfl (by omega)
      exact .nil _
    · exact keepOK_of hk hn rfl
    apply WPA.seq
    apply WPA.seq
    apply WPA.region
    · apply Trace.pu [] (.fieldAddr fl25_1 (.plain rfl) rfl)
      first | apply Trace.pu [_] (.loadLoc1D ty23 (.plain rfl) rfl rfl) | apply Trace.pu [_] (.loadLoc1 ty23 (.plain rfl) rfl rfl) | apply Trace.pu [] (.loadRp1 ty23 (.plain rfl) rfl) | apply Trace.pu [_] (.loadCol1 ty23 (.plain rfl) rfl rfl rfl (fun _ => by omega))
      apply Trace.pu [] (.len rfl Try.underlying23 (.plain rfl) rfl)
      apply Trace.pu [] (.move (.plain rfl))
      exact .nil _
    · exact keepOK_of hk hn rfl
    apply WPA.block
    refine WPA.loop (σ := Nat) (fun i => [(sl 2, .av (.d (nextD rs))), (sl 3, .av (.loc 3 0)), (sl 4, .av (.loc 4 0)), (sl 6, .av (.d (.v (.slice none 0 0)))), (sl 9, .av (.loc 9 0)), (sl 31, .av (.d (edgesD g.es))), (sl 32, .av (iv .i64 (g.es.length))), (sl 33, .av (iv .i64 (i))), (bk 3, .blk (.data g.ds)), (bk 4, .blk (.cells [.own 54 g.lat.length])), (bk 54, .blk (.app 1 g.lat.length [.ints .i64 part])), (bk 9, .blk (.cells [.own 98 (all.length + 1)])), (bk 98, .blk (.app 1 (all.length + 1) [.ints .i64 (g.waitTo part (List.replicate (all.length + 1) 0) i)]))]) (fun i => i ≤ g.es.length) (fun i => g.es.length - i) 0
      (St.le_cons rfl (St.le_cons rfl (St.le_cons rfl (St.le_cons rfl (St.le_cons rfl (St.le_cons rfl (St.le_cons rfl (St.le_cons rfl (St.le_cons rfl (St.le_cons rfl (St.le_cons rfl (St.le_cons rfl (St.le_cons rfl (St.le_nil _)))))))))))))) (Nat.zero_le _) fun i hi => ?_
    apply WPA.seq
    apply WPA.region
    · apply Trace.pu [] (.cmp (.plain rfl) (.plain rfl) rfl)
      exact .nil _
    · exact keepOK_of hk hn rfl
    apply WPA.seq
    refine WPA.cond rfl (fun hc2 => ?_) (fun hc2 => ?_)
    · have hlt : i < g.es.length := by simpa using hc2
      obtain ⟨e, he⟩ : ∃ e, g.es.getD i default = e := ⟨_, rfl⟩
      obtain ⟨hem, hef, het, hef0, het0⟩ := he ▸ Gr.edge h hlt
      have hpf := hpt e.f.toNat hef
      have hpe := hpt e.t.toNat het
      obtain ⟨w, hw⟩ : ∃ w, g.waitTo part (List.replicate (all.length + 1) 0) i = w := ⟨_, rfl⟩
      have hwl : w.length = all.length + 1 := by rw [← hw, waitTo_len, List.length_replicate]
      have hwb := waitTo_bd g part (List.replicate (all.length + 1) 0) i (part.getD e.t.toNat 0).toNat
      rw [hw, rep0_at] at hwb
      have hws : g.waitTo part (List.replicate (all.length + 1) 0) (i + 1) = if part.getD e.f.toNat 0 ≠ part.getD e.t.toNat 0 then w.set (part.getD e.t.toNat 0).toNat (w.getD (part.getD e.t.toNat 0).toNat 0 + 1) else w := by
        rw [← hw, ← he]; rfl
      rw [hw]
      apply WPA.skip
      apply WPA.seq
      apply WPA.block
      apply WPA.seq
      apply WPA.region
      · apply Trace.pu [] ((Pure.indexRows el23 (.plain rfl) (.plain rfl) (fun _ => ⟨by omega, by omega⟩)).to (y := .rp e.ds) (by show AV.rp (g.es.getD i default).ds = _; rw [he]))
        first | apply Trace.pu [_] (.loadAllD ty43 (.plain rfl) rfl (by simp)) | apply Trace.pu [_] (.loadLocD ty43 (.plain rfl) rfl (fun _ => by simp)) | apply Trace.pu [_] (.loadLoc ty43 (.plain rfl) rfl (fun _ => Nat.le_of_ble_eq_true rfl)) | apply Trace.pu [] (.loadRp ty43 (.plain rfl) (fun _ => by decide)) | apply Trace.pu [] (.loadRp ty43 (.plain rfl) (fun _ => Nat.le_of_ble_eq_true rfl)) | apply Trace.pu [_] (.loadCol ty43 (.plain rfl) rfl rfl (fun _ => by decide) (fun _ => by omega)) | apply Trace.pu [_] (.loadArr ty43 (.plain rfl) rfl)
        apply Trace.alloc 11 [] (.data _) zo43 (cellsAs_data _) rfl
        first | apply Trace.storeD ty43 (.plain rfl) (.plain rfl) rfl rfl (by simp) (by simp [AV.oneB, single]) (by simp) (spliceL_all (by simp)) | apply Trace.storeD ty43 (.plain rfl) (.plain rfl) rfl rfl (by simp) (by simp [AV.oneB, single]) (by simp) rfl | apply Trace.storeDA ty43 (.plain rfl) (.plain rfl) rfl rfl (by simp) (by simp [AV.oneB, single]) (by simp) rfl | apply Trace.storeLoc ty43 (.plain rfl) (.plain rfl) rfl rfl (by simp) (by simp [AV.oneB, single]) (by simp) rfl | apply Trace.storeRow ty43 (.plain rfl) (.plain rfl) rfl rfl rfl rfl (by decide) (by simp [AV.oneB, single]) rfl (by omega)
        exact .nil _
      · exact keepOK_of hk hn rfl
      apply WPA.seq
      apply WPA.draw mixed
      · first | apply Trace.pu [_] (.loadLoc1D ty22 (.plain rfl) rfl rfl) | apply Trace.pu [_] (.loadLoc1 ty22 (.plain rfl) rfl rfl) | apply Trace.pu [] (.loadRp1 ty22 (.plain rfl) rfl) | apply Trace.pu [_] (.loadCol1 ty22 (.plain rfl) rfl rfl rfl (fun _ => by omega))
        apply Trace.pu [] (.fieldAddr fl43_0 (.plain rfl) rfl)
        first | apply Trace.pu [_] (.loadLoc1D ty3 (.plain rfl) rfl rfl) | apply Trace.pu [_] (.loadLoc1 ty3 (.plain rfl) rfl rfl) | apply Trace.pu [] (.loadRp1 ty3 (.plain rfl) rfl) | apply Trace.pu [_] (.loadCol1 ty3 (.plain rfl) rfl rfl rfl (fun _ => by omega))
        first | apply Trace.pu [] (.indexRows el22 (.plain rfl) (.plain rfl) (fun _ => ⟨by omega, by omega⟩)) | apply Trace.pu [] (.indexOwn el22 (.plain rfl) (.plain rfl) (fun _ => ⟨by omega, by omega⟩)) | apply Trace.pu [] (.indexSl el22 (.plain rfl) (.plain rfl) (fun _ => ⟨by omega, by omega⟩))
        first | apply Trace.pu [_] (.loadLoc1D ty3 (.plain rfl) rfl rfl) | apply Trace.pu [_] (.loadLoc1 ty3 (.plain rfl) rfl rfl) | apply Trace.pu [] (.loadRp1 ty3 (.plain rfl) rfl) | apply Trace.pu [_] (.loadCol1 ty3 (.plain rfl) rfl rfl rfl (fun _ => by omega))
        first | apply Trace.pu [_] (.loadLoc1D ty22 (.plain rfl) rfl rfl) | apply Trace.pu [_] (.loadLoc1 ty22 (.plain rfl) rfl rfl) | apply Trace.pu [] (.loadRp1 ty22 (.plain rfl) rfl) | apply Trace.pu [_] (.loadCol1 ty22 (.plain rfl) rfl rfl rfl (fun _ => by omega))
        apply Trace.pu [] (.fieldAddr fl43_1 (.plain rfl) rfl)
        first | apply Trace.pu [_] (.loadLoc1D ty3 (.plain rfl) rfl rfl) | apply Trace.pu [_] (.loadLoc1 ty3 (.plain rfl) rfl rfl) | apply Trace.pu [] (.loadRp1 ty3 (.plain rfl) rfl) | apply Trace.pu [_] (.loadCol1 ty3 (.plain rfl) rfl rfl rfl (fun _ => by omega))
        first | apply Trace.pu [] (.indexRows el22 (.plain rfl) (.plain rfl) (fun _ => ⟨by omega, by omega⟩)) | apply Trace.pu [] (.indexOwn el22 (.plain rfl) (.plain rfl) (fun _ => ⟨by omega, by omega⟩)) | apply Trace.pu [] (.indexSl el22 (.plain rfl) (.plain rfl) (fun _ => ⟨by omega, by omega⟩))
        first | apply Trace.pu [_] (.loadLoc1D ty3 (.plain rfl) rfl rfl) | apply Trace.pu [_] (.loadLoc1 ty3 (.plain rfl) rfl rfl) | apply Trace.pu [] (.loadRp1 ty3 (.plain rfl) rfl) | apply Trace.pu [_] (.loadCol1 ty3 (.plain rfl) rfl rfl rfl (fun _ => by omega))
        apply Trace.pu [] (.cmp (.plain rfl) (.plain rfl) rfl)
        exact .nil _
      · rfl
      · exact keepOK_of hk hn rfl
      refine WPA.cond rfl (fun hc3 => ?_) (fun hc3 => ?_)
      · have hup : g.waitTo part (List.replicate (all.length + 1) 0) (i + 1) = w.set (part.getD e.t.toNat 0).toNat (w.getD (part.getD e.t.toNat 0).toNat 0 + 1) := by rw [hws, if_pos (by simpa using hc3)]
        apply WPA.draw mixed
        · first | apply Trace.pu [_] (.loadLoc1D ty22 (.plain rfl) rfl rfl) | apply Trace.pu [_] (.loadLoc1 ty22 (.plain rfl) rfl rfl) | apply Trace.pu [] (.loadRp1 ty22 (.plain rfl) rfl) | apply Trace.pu [_] (.loadCol1 ty22 (.plain rfl) rfl rfl rfl (fun _ => by omega))
          first | apply Trace.pu [_] (.loadLoc1D ty22 (.plain rfl) rfl rfl) | apply Trace.pu [_] (.loadLoc1 ty22 (.plain rfl) rfl rfl) | apply Trace.pu [] (.loadRp1 ty22 (.plain rfl) rfl) | apply Trace.pu [_] (.loadCol1 ty22 (.plain rfl) rfl rfl rfl (fun _ => by omega))
          apply Trace.pu [] (.fieldAddr fl43_1 (.plain rfl) rfl)
          first | apply Trace.pu [_] (.loadLoc1D ty3 (.plain rfl) rfl rfl) | apply Trace.pu [_] (.loadLoc1 ty3 (.plain rfl) rfl rfl) | apply Trace.pu [] (.loadRp1 ty3 (.plain rfl) rfl) | apply Trace.pu [_] (.loadCol1 ty3 (.plain rfl) rfl rfl rfl (fun _ => by omega))
          first | apply Trace.pu [] (.indexRows el22 (.plain rfl) (.plain rfl) (fun _ => ⟨by omega, by omega⟩)) | apply Trace.pu [] (.indexOwn el22 (.plain rfl) (.plain rfl) (fun _ => ⟨by omega, by omega⟩)) | apply Trace.pu [] (.indexSl el22 (.plain rfl) (.plain rfl) (fun _ => ⟨by omega, by omega⟩))
          first | apply Trace.pu [_] (.loadLoc1D ty3 (.plain rfl) rfl rfl) | apply Trace.pu [_] (.loadLoc1 ty3 (.plain rfl) rfl rfl) | apply Trace.pu [] (.loadRp1 ty3 (.plain rfl) rfl) | apply Trace.pu [_] (.loadCol1 ty3 (.plain rfl) rfl rfl rfl (fun _ => by omega))
          first | apply Trace.pu [] (.indexRows el22 (.plain rfl) (.plain rfl) (fun _ => ⟨by omega, by omega⟩)) | apply Trace.pu [] (.indexOwn el22 (.plain rfl) (.plain rfl) (fun _ => ⟨by omega, by omega⟩)) | apply Trace.pu [] (.indexSl el22 (.plain rfl) (.plain rfl) (fun _ => ⟨by omega, by omega⟩))
          first | apply Trace.pu [_] (.loadLoc1D ty3 (.plain rfl) rfl rfl) | apply Trace.pu [_] (.loadLoc1 ty3 (.plain rfl) rfl rfl) | apply Trace.pu [] (.loadRp1 ty3 (.plain rfl) rfl) | apply Trace.pu [_] (.loadCol1 ty3 (.plain rfl) rfl rfl rfl (fun _ => by omega))
          apply Trace.pu [] (.arith (.plain rfl) (.plain rfl) rfl (fun _ => bd64 (by omega)))
          first | apply Trace.pu [] (.indexRows el22 (.plain rfl) (.plain rfl) (fun _ => ⟨by omega, by omega⟩)) | apply Trace.pu [] (.indexOwn el22 (.plain rfl) (.plain rfl) (fun _ => ⟨by omega, by omega⟩)) | apply Trace.pu [] (.indexSl el22 (.plain rfl) (.plain rfl) (fun _ => ⟨by omega, by omega⟩))
          first | apply Trace.storeD ty3 (.plain rfl) (.plain rfl) rfl rfl rfl (by simp [AV.oneB, single]) (Nat.le_of_ble_eq_true rfl) rfl | apply Trace.storeDA ty3 (.plain rfl) (.plain rfl) rfl rfl rfl (by simp [AV.oneB, single]) (Nat.le_of_ble_eq_true rfl) rfl | apply Trace.storeLoc ty3 (.plain rfl) (.plain rfl) rfl rfl rfl (by simp [AV.oneB, single]) (Nat.le_of_ble_eq_true rfl) rfl | apply Trace.storeRow ty3 (.plain rfl) (.plain rfl) rfl rfl rfl rfl (by decide) (by simp [AV.oneB, single]) rfl (by omega)
          exact .nil _
        · rfl
        · exact keepOK_of hk hn rfl
        apply WPA.region
        · apply Trace.pu [] (.arith (.plain rfl) (.plain rfl) rfl (fun _ => bd64 (by omega)))
          apply Trace.pu [] (.move (.plain rfl))
          exact .nil _
        · exact keepOK_of hk hn rfl
        refine ⟨i + 1, by omega, by omega, ?_⟩
        rw [hup]
        exact (St.le_cons rfl (St.le_cons rfl (St.le_cons rfl (St.le_cons rfl (St.le_cons rfl (St.le_cons rfl (St.le_cons rfl (St.le_cons (slI (by omega)) (St.le_cons rfl (St.le_cons rfl (St.le_cons rfl (St.le_cons rfl (St.le_cons rfl (St.le_nil _))))))))))))))
      · have hup : g.waitTo part (List.replicate (all.length + 1) 0) (i + 1) = w := by rw [hws, if_neg (by simpa using hc3)]
        apply WPA.skip
        apply WPA.region
        · apply Trace.pu [] (.arith (.plain rfl) (.plain rfl) rfl (fun _ => bd64 (by omega)))
          apply Trace.pu [] (.move (.plain rfl))
          exact .nil _
        · exact keepOK_of hk hn rfl
        refine ⟨i + 1, by omega, by omega, ?_⟩
        rw [hup]
        exact (St.le_cons rfl (St.le_cons rfl (St.le_cons rfl (St.le_cons rfl (St.le_cons rfl (St.le_cons rfl (St.le_cons rfl (St.le_cons (slI (by omega)) (St.le_cons rfl (St.le_cons rfl (St.le_cons rfl (St.le_cons rfl (St.le_cons rfl (St.le_nil _))))))))))))))
    · have hie : i = g.es.length := by
        have : ¬ ((i : Int) < g.es.length) := by simpa using hc2
        omega
      subst hie
      have hall2 : ∀ r ∈ rs, 0 < r.length ∧ ∀ x ∈ r, 0 ≤ x ∧ x.toNat < g.lat.length := fun r hr => by
        rw [← hrs] at hr
        obtain ⟨r0, h0, rfl⟩ := List.mem_map.1 hr
        have := hall r0 h0
        exact ⟨by rw [isort_len]; exact this.1, fun x hx => this.2.2 x ((isort_perm r0).mem_iff.1 hx)⟩
      have hfit : ∀ r ∈ rs, Fit part g.lat.length (all.length + 1) r := fun r hr => by
        obtain ⟨h1, h2⟩ := hall2 r hr
        have h3 := h2 (hd r) (getD_in 0 h1)
        have h4 := hpt _ h3.2
        exact ⟨h1, h3.1, h3.2, h4.1, h4.2⟩
      have hhd : Hds rs := fun r hr => by
        have := hfit r hr
        have h2 := this.hi
        exact ⟨this.ne, this.lo, by have := this.lo; omega⟩
      apply WPA.exit
      apply WPA.seq
      apply WPA.region
      · apply Trace.pu [] (.move (.plain rfl))
        apply Trace.cb [97] [] (callArgs0 (.cons (.plain rfl) .nil)) (spec43 (c := rs) (by omega)) en43 .nil rfl rfl
        apply Trace.pu [] (.assign (.plain rfl))
        exact .nil _
      · exact keepOK_of hk hn rfl
      apply WPA.seq
      apply WPA.region
      · apply Trace.pu [] (.move (.plain rfl))
        apply Trace.cb [] [bk 97] (callArgs0 (.cons (.plain rfl) (.cons (.plain rfl) .nil))) (spec44 (c := rs) (m := rs.length) rfl (by omega) hhd) en44 (.cons rfl .nil) rfl rfl
        exact .nil _
      · exact keepOK_of hk hn rfl
      apply WPA.seq
      apply WPA.block
      refine WPA.weaken (T := [(sl 3, .av (.loc 3 0)), (sl 4, .av (.loc 4 0)), (sl 9, .av (.loc 9 0)), (sl 12, .av (.own 97 rs.length)), (sl 6, .av (.d (.v (.slice none 0 0)))), (bk 3, .blk (.data g.ds)), (bk 4, .blk (.cells [.own 54 g.lat.length])), (bk 54, .blk (.app 1 g.lat.length [.ints .i64 part])), (bk 9, .blk (.cells [.own 98 (all.length + 1)])), (bk 98, .blk (.app 1 (all.length + 1) [.ints .i64 (g.waitTo part (List.replicate (all.length + 1) 0) g.es.length)])), (bk 97, .blk (.app 1 rs.length [.ds (dsC (byHead rs))]))]) ?_ (St.le_cons rfl (St.le_cons rfl (St.le_cons rfl (St.le_cons rfl (St.le_cons rfl (St.le_cons rfl (St.le_cons rfl (St.le_cons rfl (St.le_cons rfl (St.le_cons rfl (St.le_cons rfl (St.le_nil _))))))))))))
      refine WPA.ghost (Ghost.ownNil (t := 6) (l := 96) (n := 1) (cs := [.ds []]) rfl (fun m c e hm hc => ?_) (by rw [hk]; simp) (by rw [hn]; decide) rfl (by simp [Col.len])) ?_
      · exact fresh_of (A := ⟨[], [(sl 3, .av (.loc 3 0)), (sl 4, .av (.loc 4 0)), (sl 9, .av (.loc 9 0)), (sl 12, .av (.own 97 rs.length)), (sl 6, .av (.d (.v (.slice none 0 0)))), (bk 3, .blk (.data g.ds)), (bk 4, .blk (.cells [.own 54 g.lat.length])), (bk 54, .blk (.app 1 g.lat.length [.ints .i64 part])), (bk 9, .blk (.cells [.own 98 (all.length + 1)])), (bk 98, .blk (.app 1 (all.length + 1) [.ints .i64 (g.waitTo part (List.replicate (all.length + 1) 0) g.es.length)])), (bk 97, .blk (.app 1 rs.length [.ds (dsC (byHead rs))]))], [(bk 96, none)], [96]⟩) rfl 96 (by simp) m c e (by simpa [Ax.names] using hm) hc
      refine WPA.weaken (T := [(sl 3, .av (.loc 3 0)), (sl 4, .av (.loc 4 0)), (sl 9, .av (.loc 9 0)), (sl 12, .av (.own 97 rs.length)), (sl 6, .av (.own 96 0)), (bk 3, .blk (.data g.ds)), (bk 4, .blk (.cells [.own 54 g.lat.length])), (bk 54, .blk (.app 1 g.lat.length [.ints .i64 part])), (bk 9, .blk (.cells [.own 98 (all.length + 1)])), (bk 98, .blk (.app 1 (all.length + 1) [.ints .i64 (g.waitTo part (List.replicate (all.length + 1) 0) g.es.length)])), (bk 97, .blk (.app 1 rs.length [.ds (dsC (byHead rs))])), (bk 96, .blk (.app 1 0 [.ds []]))]) ?_ (St.le_cons rfl (St.le_cons rfl (St.le_cons rfl (St.le_cons rfl (St.le_cons rfl (St.le_cons rfl (St.le_cons rfl (St.le_cons rfl (St.le_cons rfl (St.le_cons rfl (St.le_cons rfl (St.le_cons rfl (St.le_nil _)))))))))))))
      refine WPA.loop (σ := AR) (fun s => [(sl 3, .av (.loc 3 0)), (sl 4, .av (.loc 4 0)), (sl 9, .av (.loc 9 0)), (sl 12, .av (.own 97 (s.c.length))), (sl 6, .av (.own 96 (s.o.length))), (bk 3, .blk (.data g.ds)), (bk 4, .blk (.cells [.own 54 g.lat.length])), (bk 54, .blk (.app 1 g.lat.length [.ints .i64 part])), (bk 9, .blk (.cells [.own 98 (all.length + 1)])), (bk 98, .blk (.app 1 (all.length + 1) [.ints .i64 (s.w)])), (bk 97, .blk (.app 1 (s.c.length) [.ds (dsC (s.c))])), (bk 96, .blk (.app 1 (s.o.length) [.ds (dsC (s.o))]))]) (fun s => (∀ r ∈ s.c, r ∈ rs) ∧ s.o.length + s.c.length = all.length ∧ s.w.length = all.length + 1 ∧ (∀ j, -(16384 * (s.o.length : Int)) ≤ s.w.getD j 0 ∧ s.w.getD j 0 ≤ 16384) ∧ (g.placeAll part s.c.length s).map (·.o) = some out) (fun s => s.c.length) (startA g part all)
        (St.le_cons rfl (St.le_cons rfl (St.le_cons rfl (St.le_cons (by show some (Cont.av (.own 97 rs.length)) = some (Cont.av (.own 97 (byHead (all.map isort)).length)); rw [hrs, show (byHead rs).length = rs.length from insTo_len _ _]) (St.le_cons rfl (St.le_cons rfl (St.le_cons rfl (St.le_cons rfl (St.le_cons rfl (St.le_cons rfl (St.le_cons (by show some (Cont.blk (.app 1 rs.length [.ds (dsC (byHead rs))])) = some (Cont.blk (.app 1 (byHead (all.map isort)).length [.ds (dsC (byHead (all.map isort)))])); rw [hrs, show (byHead rs).length = rs.length from insTo_len _ _]) (St.le_cons rfl (St.le_nil _))))))))))))) ?_ fun s hs => ?_
      · have hbl : (byHead rs).length = all.length := by rw [insTo_len, hrsl]
        refine ⟨fun r hr => ?_, ?_, ?_, fun j => ?_, ?_⟩
        · have hr : r ∈ byHead rs := by rw [← hrs]; exact hr
          by_cases h0 : rs.length = 0
          · have : (byHead rs) = [] := List.length_eq_zero_iff.1 (by rw [insTo_len]; exact h0)
            rw [this] at hr; cases hr
          · exact insTo_mem rs _ (by omega) r hr
        · show 0 + (byHead (all.map isort)).length = _
          rw [hrs, hbl]; omega
        · show (g.waitTo part (List.replicate (all.length + 1) 0) g.es.length).length = _
          rw [waitTo_len, List.length_replicate]
        · have := waitTo_bd g part (List.replicate (all.length + 1) 0) g.es.length j
          rw [rep0_at] at this
          show -(16384 * ((0 : Nat) : Int)) ≤ (g.waitTo part (List.replicate (all.length + 1) 0) g.es.length).getD j 0 ∧ (g.waitTo part (List.replicate (all.length + 1) 0) g.es.length).getD j 0 ≤ 16384
          omega
        · show (g.placeAll part (byHead (all.map isort)).length (startA g part all)).map (·.o) = some out
          rw [hrs, hbl]; exact hout
      apply WPA.seq
      apply WPA.seq
      apply WPA.region
      · apply Trace.pu [] (.move (.plain rfl))
        apply Trace.pu [] (.len rfl Try.underlying28 (.plain rfl) rfl)
        apply Trace.pu [] (.cmp (.plain rfl) (.plain rfl) rfl)
        exact .nil _
      · exact keepOK_of hk hn rfl
      refine WPA.cond rfl (fun hc4 => ?_) (fun hc4 => ?_)
      · obtain ⟨hs1, hs2, hs3, hs4, hs5⟩ := hs
        have hpos : 0 < s.c.length := by
          have : (0 : Int) < s.c.length := of_decide_eq_true hc4
          omega
        obtain ⟨k, hkk⟩ : ∃ k, s.c.length = k + 1 := ⟨s.c.length - 1, by omega⟩
        cases hfx : firstFree part s.w s.c with
        | none =>
          rw [hkk] at hs5
          have : (g.place part s) = none := by unfold Gr.place; rw [hfx]; rfl
          simp [Gr.placeAll, this] at hs5
        | some ix =>
        obtain ⟨hx1, hx2, hx3⟩ := firstFree_some part s.w hfx
        obtain ⟨nx, hnx⟩ : ∃ nx, s.c.getD ix [] = nx := ⟨_, rfl⟩
        have hnm : nx ∈ s.c := by rw [← hnx]; exact getD_in [] hx1
        have hfn := hfit nx (hs1 nx hnm)
        have hstep : (g.placeAll part (s.c.eraseIdx ix).length ⟨s.c.eraseIdx ix, g.lessTo part (part.getD (hd nx).toNat 0) s.w g.es.length, s.o ++ [nx]⟩).map (·.o) = some out := by
          rw [hkk] at hs5
          have hp : g.place part s = some ⟨s.c.eraseIdx ix, g.lessTo part (part.getD (hd nx).toNat 0) s.w g.es.length, s.o ++ [nx]⟩ := by unfold Gr.place; rw [hfx, ← hnx]; rfl
          have hl : (s.c.eraseIdx ix).length = k := by rw [List.length_eraseIdx, if_pos hx1, hkk]; rfl
          rw [hl]
          simpa [Gr.placeAll, hp] using hs5
        apply WPA.skip
        apply WPA.block
        apply WPA.seq
        apply WPA.region
        · apply Trace.pu [] (.move (.plain rfl))
          apply Trace.pu [] (.funcL (.cons (.plain rfl) (.cons (.plain rfl) .nil)))
          apply Trace.cb [] [bk 97, bk 9, bk 98, bk 4, bk 54] (callArgs0 (.cons (.plain rfl) (.cons (.plain rfl) .nil))) (spec46 (n := g.lat.length) (k := all.length + 1) (m := s.c.length) rfl (by omega) (fun r hr => hfit r (hs1 r hr)) hfx) en46 (.cons rfl (.cons rfl (.cons rfl (.cons rfl (.cons rfl (.nil)))))) rfl rfl
          apply Trace.pu [] (.assign (.plain rfl))
          exact .nil _
        · exact keepOK_of hk hn rfl
        apply WPA.seq
        apply WPA.region
        · apply Trace.pu [] (.move (.plain rfl))
          apply Trace.pu [] (.move (.plain rfl))
          first | apply Trace.pu [] (.indexRows el28 (.plain rfl) (.plain rfl) (fun _ => ⟨by omega, by omega⟩)) | apply Trace.pu [] (.indexOwn el28 (.plain rfl) (.plain rfl) (fun _ => ⟨by omega, by omega⟩)) | apply Trace.pu [] (.indexSl el28 (.plain rfl) (.plain rfl) (fun _ => ⟨by omega, by omega⟩))
          apply Trace.pu [97] ((Pure.loadCol1 ty22 (.plain rfl) rfl rfl rfl (fun _ => by omega)).to (y := .d (rowD nx)) (by rw [← hnx]; exact congrArg AV.d (dsC_at (by omega))))
          apply Trace.pu [] (.assign (.plain rfl))
          exact .nil _
        · exact keepOK_of hk hn rfl
        apply WPA.seq
        apply WPA.region
        · apply Trace.pu [] (.move (.plain rfl))
          apply Trace.pu [] (.move (.plain rfl))
          apply Trace.pu [] (.move (.plain rfl))
          apply Trace.pu [] (.arith (.plain rfl) (.plain rfl) rfl (fun _ => bd64 (by omega)))
          apply Trace.cb [] [bk 97] (callArgs0 (.cons (.plain rfl) (.cons (.plain rfl) (.cons (.plain rfl) .nil)))) (spec48 (c := s.c) (m := s.c.length) (i := ix) rfl (by omega) hx1) en48 (.cons rfl .nil) rfl rfl
          apply Trace.pu [] (.assign (.plain rfl))
          exact .nil _
        · exact keepOK_of hk hn rfl
        apply WPA.seq
        apply WPA.region
        · apply Trace.pu [] (.move (.plain rfl))
          apply Trace.pu [] (.move (.plain rfl))
          apply Trace.buildSlice 80 [] so28 zo22 rfl (by decide) (by decide) (.cons (.plain rfl) rfl rfl (Nat.le_of_ble_eq_true rfl) (.nil _ _)) rfl rfl rfl
          apply Trace.append 94 [bk 96, bk 80, sl 80] ap28 kd28 (by decide) (.own (.plain rfl) rfl) (.own (.plain rfl) rfl) (Col.ones rfl) (labs_ok rfl) (by omega) (by omega) rfl rfl
          apply Trace.pu [] (.assign (.plain rfl))
          exact .nil _
        · exact keepOK_of hk hn rfl
        apply WPA.seq
        refine WPA.ghost (Ghost.swap 96 94 (by rw [hk]; decide) (by rw [hk]; decide) rfl) ?_
        refine WPA.weaken (T := [(sl 14, .av (.d (rowD nx))), (sl 3, .av (.loc 3 0)), (sl 4, .av (.loc 4 0)), (sl 9, .av (.loc 9 0)), (sl 12, .av (.own 97 (s.c.length - 1))), (sl 6, .av (.own 96 (s.o.length + 1))), (bk 3, .blk (.data g.ds)), (bk 4, .blk (.cells [.own 54 g.lat.length])), (bk 54, .blk (.app 1 g.lat.length [.ints .i64 part])), (bk 9, .blk (.cells [.own 98 (all.length + 1)])), (bk 98, .blk (.app 1 (all.length + 1) [.ints .i64 (s.w)])), (bk 97, .blk (.app 1 (s.c.length - 1) [.ds (dsC (s.c.eraseIdx ix))])), (bk 96, .blk (.app 1 (s.o.length + 1) [.ds (dsC (s.o ++ [nx]))]))]) ?_ (St.le_cons rfl (St.le_cons rfl (St.le_cons rfl (St.le_cons rfl (St.le_cons rfl (St.le_cons rfl (St.le_cons rfl (St.le_cons rfl (St.le_cons rfl (St.le_cons rfl (St.le_cons rfl (St.le_cons rfl (St.le_cons (app_ds (by show dsC s.o ++ [rowD nx] = dsC (s.o ++ [nx]); simp [dsC])) (St.le_nil _))))))))))))))
        apply WPA.region
        · apply Trace.pu [] (.fieldAddr fl25_1 (.plain rfl) rfl)
          first | apply Trace.pu [_] (.loadLoc1D ty23 (.plain rfl) rfl rfl) | apply Trace.pu [_] (.loadLoc1 ty23 (.plain rfl) rfl rfl) | apply Trace.pu [] (.loadRp1 ty23 (.plain rfl) rfl) | apply Trace.pu [_] (.loadCol1 ty23 (.plain rfl) rfl rfl rfl (fun _ => by omega))
          apply Trace.pu [] (.len rfl Try.underlying23 (.plain rfl) rfl)
          apply Trace.pu [] (.move (.plain rfl))
          exact .nil _
        · exact keepOK_of hk hn rfl
        apply WPA.block
        refine WPA.loop (σ := Nat) (fun i => [(sl 14, .av (.d (rowD nx))), (sl 83, .av (.d (edgesD g.es))), (sl 84, .av (iv .i64 (g.es.length))), (sl 85, .av (iv .i64 (i))), (sl 3, .av (.loc 3 0)), (sl 4, .av (.loc 4 0)), (sl 9, .av (.loc 9 0)), (sl 12, .av (.own 97 (s.c.length - 1))), (sl 6, .av (.own 96 (s.o.length + 1))), (bk 3, .blk (.data g.ds)), (bk 4, .blk (.cells [.own 54 g.lat.length])), (bk 54, .blk (.app 1 g.lat.length [.ints .i64 part])), (bk 9, .blk (.cells [.own 98 (all.length + 1)])), (bk 98, .blk (.app 1 (all.length + 1) [.ints .i64 (g.lessTo part (part.getD (hd nx).toNat 0) s.w i)])), (bk 97, .blk (.app 1 (s.c.length - 1) [.ds (dsC (s.c.eraseIdx ix))])), (bk 96, .blk (.app 1 (s.o.length + 1) [.ds (dsC (s.o ++ [nx]))]))]) (fun i => i ≤ g.es.length) (fun i => g.es.length - i) 0
          (St.le_cons rfl (St.le_cons rfl (St.le_cons rfl (St.le_cons rfl (St.le_cons rfl (St.le_cons rfl (St.le_cons rfl (St.le_cons rfl (St.le_cons rfl (St.le_cons rfl (St.le_cons rfl (St.le_cons rfl (St.le_cons rfl (St.le_cons rfl (St.le_cons rfl (St.le_cons rfl (St.le_nil _))))))))))))))))) (Nat.zero_le _) fun i hi => ?_
        apply WPA.seq
        apply WPA.region
        · apply Trace.pu [] (.cmp (.plain rfl) (.plain rfl) rfl)
          exact .nil _
        · exact keepOK_of hk hn rfl
        apply WPA.seq
        refine WPA.cond rfl (fun hc5 => ?_) (fun hc5 => ?_)
        · have hlt : i < g.es.length := by simpa using hc5
          obtain ⟨e, he⟩ : ∃ e, g.es.getD i default = e := ⟨_, rfl⟩
          obtain ⟨hem, hef, het, hef0, het0⟩ := he ▸ Gr.edge h hlt
          have hpf := hpt e.f.toNat hef
          have hpe := hpt e.t.toNat het
          obtain ⟨w, hw⟩ : ∃ w, g.lessTo part (part.getD (hd nx).toNat 0) s.w i = w := ⟨_, rfl⟩
          have hwl : w.length = all.length + 1 := by rw [← hw, lessTo_len, hs3]
          have hwb := lessTo_bd g part (part.getD (hd nx).toNat 0) s.w i (part.getD e.t.toNat 0).toNat
          have hwc := hs4 (part.getD e.t.toNat 0).toNat
          have hol : s.o.length ≤ 12 := by omega
          rw [hw] at hwb
          have hws : g.lessTo part (part.getD (hd nx).toNat 0) s.w (i + 1) = if part.getD e.f.toNat 0 = part.getD (hd nx).toNat 0 ∧ part.getD e.t.toNat 0 ≠ part.getD e.f.toNat 0 then w.set (part.getD e.t.toNat 0).toNat (w.getD (part.getD e.t.toNat 0).toNat 0 - 1) else w := by
            rw [← hw, ← he]; rfl
          rw [hw]
          obtain ⟨hf1, hf2, hf3, hf4, hf5⟩ := hfn
          apply WPA.skip
          apply WPA.seq
          apply WPA.block
          apply WPA.seq
          apply WPA.region
          · apply Trace.pu [] ((Pure.indexRows el23 (.plain rfl) (.plain rfl) (fun _ => ⟨by omega, by omega⟩)).to (y := .rp e.ds) (by show AV.rp (g.es.getD i default).ds = _; rw [he]))
            first | apply Trace.pu [_] (.loadAllD ty43 (.plain rfl) rfl (by simp)) | apply Trace.pu [_] (.loadLocD ty43 (.plain rfl) rfl (fun _ => by simp)) | apply Trace.pu [_] (.loadLoc ty43 (.plain rfl) rfl (fun _ => Nat.le_of_ble_eq_true rfl)) | apply Trace.pu [] (.loadRp ty43 (.plain rfl) (fun _ => by decide)) | apply Trace.pu [] (.loadRp ty43 (.plain rfl) (fun _ => Nat.le_of_ble_eq_true rfl)) | apply Trace.pu [_] (.loadCol ty43 (.plain rfl) rfl rfl (fun _ => by decide) (fun _ => by omega)) | apply Trace.pu [_] (.loadArr ty43 (.plain rfl) rfl)
            apply Trace.alloc 16 [] (.data _) zo43 (cellsAs_data _) rfl
            first | apply Trace.storeD ty43 (.plain rfl) (.plain rfl) rfl rfl (by simp) (by simp [AV.oneB, single]) (by simp) (spliceL_all (by simp)) | apply Trace.storeD ty43 (.plain rfl) (.plain rfl) rfl rfl (by simp) (by simp [AV.oneB, single]) (by simp) rfl | apply Trace.storeDA ty43 (.plain rfl) (.plain rfl) rfl rfl (by simp) (by simp [AV.oneB, single]) (by simp) rfl | apply Trace.storeLoc ty43 (.plain rfl) (.plain rfl) rfl rfl (by simp) (by simp [AV.oneB, single]) (by simp) rfl | apply Trace.storeRow ty43 (.plain rfl) (.plain rfl) rfl rfl rfl rfl (by decide) (by simp [AV.oneB, single]) rfl (by omega)
            exact .nil _
          · exact keepOK_of hk hn rfl
          apply WPA.seq
          apply WPA.draw mixed
          · first | apply Trace.pu [_] (.loadLoc1D ty22 (.plain rfl) rfl rfl) | apply Trace.pu [_] (.loadLoc1 ty22 (.plain rfl) rfl rfl) | apply Trace.pu [] (.loadRp1 ty22 (.plain rfl) rfl) | apply Trace.pu [_] (.loadCol1 ty22 (.plain rfl) rfl rfl rfl (fun _ => by omega))
            apply Trace.pu [] (.fieldAddr fl43_0 (.plain rfl) rfl)
            first | apply Trace.pu [_] (.loadLoc1D ty3 (.plain rfl) rfl rfl) | apply Trace.pu [_] (.loadLoc1 ty3 (.plain rfl) rfl rfl) | apply Trace.pu [] (.loadRp1 ty3 (.plain rfl) rfl) | apply Trace.pu [_] (.loadCol1 ty3 (.plain rfl) rfl rfl rfl (fun _ => by omega))
            first | apply Trace.pu [] (.indexRows el22 (.plain rfl) (.plain rfl) (fun _ => ⟨by omega, by omega⟩)) | apply Trace.pu [] (.indexOwn el22 (.plain rfl) (.plain rfl) (fun _ => ⟨by omega, by omega⟩)) | apply Trace.pu [] (.indexSl el22 (.plain rfl) (.plain rfl) (fun _ => ⟨by omega, by omega⟩))
            first | apply Trace.pu [_] (.loadLoc1D ty3 (.plain rfl) rfl rfl) | apply Trace.pu [_] (.loadLoc1 ty3 (.plain rfl) rfl rfl) | apply Trace.pu [] (.loadRp1 ty3 (.plain rfl) rfl) | apply Trace.pu [_] (.loadCol1 ty3 (.plain rfl) rfl rfl rfl (fun _ => by omega))
            first | apply Trace.pu [_] (.loadLoc1D ty22 (.plain rfl) rfl rfl) | apply Trace.pu [_] (.loadLoc1 ty22 (.plain rfl) rfl rfl) | apply Trace.pu [] (.loadRp1 ty22 (.plain rfl) rfl) | apply Trace.pu [_] (.loadCol1 ty22 (.plain rfl) rfl rfl rfl (fun _ => by omega))
            apply Trace.pu [] (.move (.plain rfl))
            first | apply Trace.pu [] (.indexRows el22 (.plain rfl) (.plain rfl) (fun _ => ⟨by omega, by omega⟩)) | apply Trace.pu [] (.indexOwn el22 (.plain rfl) (.plain rfl) (fun _ => ⟨by omega, by omega⟩)) | apply Trace.pu [] (.indexSl el22 (.plain rfl) (.plain rfl) (fun _ => ⟨by omega, by omega⟩))
            apply Trace.pu [] ((Pure.loadRp1 ty3 (.plain rfl) rfl).to (y := iv .i64 (hd nx)) rfl)
            first | apply Trace.pu [] (.indexRows el22 (.plain rfl) (.plain rfl) (fun _ => ⟨by omega, by omega⟩)) | apply Trace.pu [] (.indexOwn el22 (.plain rfl) (.plain rfl) (fun _ => ⟨by omega, by omega⟩)) | apply Trace.pu [] (.indexSl el22 (.plain rfl) (.plain rfl) (fun _ => ⟨by omega, by omega⟩))
            first | apply Trace.pu [_] (.loadLoc1D ty3 (.plain rfl) rfl rfl) | apply Trace.pu [_] (.loadLoc1 ty3 (.plain rfl) rfl rfl) | apply Trace.pu [] (.loadRp1 ty3 (.plain rfl) rfl) | apply Trace.pu [_] (.loadCol1 ty3 (.plain rfl) rfl rfl rfl (fun _ => by omega))
            apply Trace.pu [] (.cmp (.plain rfl) (.plain rfl) rfl)
            apply Trace.pu [] (.move (.plain rfl))
            first | apply Trace.pg [_] rfl (.loadLoc1D ty22 (.plain rfl) rfl rfl) | apply Trace.pg [_] rfl (.loadLoc1 ty22 (.plain rfl) rfl rfl) | apply Trace.pg [] rfl (.loadRp1 ty22 (.plain rfl) rfl) | apply Trace.pg [_] rfl (.loadCol1 ty22 (.plain rfl) rfl rfl rfl (fun _ => by omega))
            apply Trace.pg [] rfl (.fieldAddr fl43_1 (.plain rfl) rfl)
            first | apply Trace.pg [_] rfl (.loadLoc1D ty3 (.gd rfl (fun h => h)) rfl rfl) | apply Trace.pg [_] rfl (.loadLoc1 ty3 (.gd rfl (fun h => h)) rfl rfl) | apply Trace.pg [] rfl (.loadRp1 ty3 (.gd rfl (fun h => h)) rfl) | apply Trace.pg [_] rfl (.loadCol1 ty3 (.gd rfl (fun h => h)) rfl rfl rfl (fun _ => by omega))
            first | apply Trace.pg [] rfl (.indexRows el22 (.gd rfl (fun h => h)) (.gd rfl (fun h => h)) (fun _ => ⟨by omega, by omega⟩)) | apply Trace.pg [] rfl (.indexOwn el22 (.gd rfl (fun h => h)) (.gd rfl (fun h => h)) (fun _ => ⟨by omega, by omega⟩)) | apply Trace.pg [] rfl (.indexSl el22 (.gd rfl (fun h => h)) (.gd rfl (fun h => h)) (fun _ => ⟨by omega, by omega⟩))
            first | apply Trace.pg [_] rfl (.loadLoc1D ty3 (.gd rfl (fun h => h)) rfl rfl) | apply Trace.pg [_] rfl (.loadLoc1 ty3 (.gd rfl (fun h => h)) rfl rfl) | apply Trace.pg [] rfl (.loadRp1 ty3 (.gd rfl (fun h => h)) rfl) | apply Trace.pg [_] rfl (.loadCol1 ty3 (.gd rfl (fun h => h)) rfl rfl rfl (fun _ => by omega))
            first | apply Trace.pg [_] rfl (.loadLoc1D ty22 (.plain rfl) rfl rfl) | apply Trace.pg [_] rfl (.loadLoc1 ty22 (.plain rfl) rfl rfl) | apply Trace.pg [] rfl (.loadRp1 ty22 (.plain rfl) rfl) | apply Trace.pg [_] rfl (.loadCol1 ty22 (.plain rfl) rfl rfl rfl (fun _ => by omega))
            apply Trace.pg [] rfl (.fieldAddr fl43_0 (.plain rfl) rfl)
            first | apply Trace.pg [_] rfl (.loadLoc1D ty3 (.gd rfl (fun h => h)) rfl rfl) | apply Trace.pg [_] rfl (.loadLoc1 ty3 (.gd rfl (fun h => h)) rfl rfl) | apply Trace.pg [] rfl (.loadRp1 ty3 (.gd rfl (fun h => h)) rfl) | apply Trace.pg [_] rfl (.loadCol1 ty3 (.gd rfl (fun h => h)) rfl rfl rfl (fun _ => by omega))
            first | apply Trace.pg [] rfl (.indexRows el22 (.gd rfl (fun h => h)) (.gd rfl (fun h => h)) (fun _ => ⟨by omega, by omega⟩)) | apply Trace.pg [] rfl (.indexOwn el22 (.gd rfl (fun h => h)) (.gd rfl (fun h => h)) (fun _ => ⟨by omega, by omega⟩)) | apply Trace.pg [] rfl (.indexSl el22 (.gd rfl (fun h => h)) (.gd rfl (fun h => h)) (fun _ => ⟨by omega, by omega⟩))
            first | apply Trace.pg [_] rfl (.loadLoc1D ty3 (.gd rfl (fun h => h)) rfl rfl) | apply Trace.pg [_] rfl (.loadLoc1 ty3 (.gd rfl (fun h => h)) rfl rfl) | apply Trace.pg [] rfl (.loadRp1 ty3 (.gd rfl (fun h => h)) rfl) | apply Trace.pg [_] rfl (.loadCol1 ty3 (.gd rfl (fun h => h)) rfl rfl rfl (fun _ => by omega))
            apply Trace.pg [] rfl (.cmp (.gd rfl (fun h => h)) (.gd rfl (fun h => h)) rfl)
            apply Trace.pu [] (.pick (.plain rfl) (.gd rfl (by simp)) (.plain rfl))
            exact .nil _
          · rfl
          · exact keepOK_of hk hn rfl
          refine WPA.cond rfl (fun hc6 => ?_) (fun hc6 => ?_)
          · have hup : g.lessTo part (part.getD (hd nx).toNat 0) s.w (i + 1) = w.set (part.getD e.t.toNat 0).toNat (w.getD (part.getD e.t.toNat 0).toNat 0 - 1) := by rw [hws, if_pos (by simpa [bif_and2] using hc6)]
            apply WPA.draw mixed
            · first | apply Trace.pu [_] (.loadLoc1D ty22 (.plain rfl) rfl rfl) | apply Trace.pu [_] (.loadLoc1 ty22 (.plain rfl) rfl rfl) | apply Trace.pu [] (.loadRp1 ty22 (.plain rfl) rfl) | apply Trace.pu [_] (.loadCol1 ty22 (.plain rfl) rfl rfl rfl (fun _ => by omega))
              first | apply Trace.pu [_] (.loadLoc1D ty22 (.plain rfl) rfl rfl) | apply Trace.pu [_] (.loadLoc1 ty22 (.plain rfl) rfl rfl) | apply Trace.pu [] (.loadRp1 ty22 (.plain rfl) rfl) | apply Trace.pu [_] (.loadCol1 ty22 (.plain rfl) rfl rfl rfl (fun _ => by omega))
              apply Trace.pu [] (.fieldAddr fl43_1 (.plain rfl) rfl)
              first | apply Trace.pu [_] (.loadLoc1D ty3 (.plain rfl) rfl rfl) | apply Trace.pu [_] (.loadLoc1 ty3 (.plain rfl) rfl rfl) | apply Trace.pu [] (.loadRp1 ty3 (.plain rfl) rfl) | apply Trace.pu [_] (.loadCol1 ty3 (.plain rfl) rfl rfl rfl (fun _ => by omega))
              first | apply Trace.pu [] (.indexRows el22 (.plain rfl) (.plain rfl) (fun _ => ⟨by omega, by omega⟩)) | apply Trace.pu [] (.indexOwn el22 (.plain rfl) (.plain rfl) (fun _ => ⟨by omega, by omega⟩)) | apply Trace.pu [] (.indexSl el22 (.plain rfl) (.plain rfl) (fun _ => ⟨by omega, by omega⟩))
              first | apply Trace.pu [_] (.loadLoc1D ty3 (.plain rfl) rfl rfl) | apply Trace.pu [_] (.loadLoc1 ty3 (.plain rfl) rfl rfl) | apply Trace.pu [] (.loadRp1 ty3 (.plain rfl) rfl) | apply Trace.pu [_] (.loadCol1 ty3 (.plain rfl) rfl rfl rfl (fun _ => by omega))
              first | apply Trace.pu [] (.indexRows el22 (.plain rfl) (.plain rfl) (fun _ => ⟨by omega, by omega⟩)) | apply Trace.pu [] (.indexOwn el22 (.plain rfl) (.plain rfl) (fun _ => ⟨by omega, by omega⟩)) | apply Trace.pu [] (.indexSl el22 (.plain rfl) (.plain rfl) (fun _ => ⟨by omega, by omega⟩))
              first | apply Trace.pu [_] (.loadLoc1D ty3 (.plain rfl) rfl rfl) | apply Trace.pu [_] (.loadLoc1 ty3 (.plain rfl) rfl rfl) | apply Trace.pu [] (.loadRp1 ty3 (.plain rfl) rfl) | apply Trace.pu [_] (.loadCol1 ty3 (.plain rfl) rfl rfl rfl (fun _ => by omega))
              apply Trace.pu [] (.arith (.plain rfl) (.plain rfl) rfl (fun _ => bd64 (by omega)))
              first | apply Trace.pu [] (.indexRows el22 (.plain rfl) (.plain rfl) (fun _ => ⟨by omega, by omega⟩)) | apply Trace.pu [] (.indexOwn el22 (.plain rfl) (.plain rfl) (fun _ => ⟨by omega, by omega⟩)) | apply Trace.pu [] (.indexSl el22 (.plain rfl) (.plain rfl) (fun _ => ⟨by omega, by omega⟩))
              first | apply Trace.storeD ty3 (.plain rfl) (.plain rfl) rfl rfl rfl (by simp [AV.oneB, single]) (Nat.le_of_ble_eq_true rfl) rfl | apply Trace.storeDA ty3 (.plain rfl) (.plain rfl) rfl rfl rfl (by simp [AV.oneB, single]) (Nat.le_of_ble_eq_true rfl) rfl | apply Trace.storeLoc ty3 (.plain rfl) (.plain rfl) rfl rfl rfl (by simp [AV.oneB, single]) (Nat.le_of_ble_eq_true rfl) rfl | apply Trace.storeRow ty3 (.plain rfl) (.plain rfl) rfl rfl rfl rfl (by decide) (by simp [AV.oneB, single]) rfl (by omega)
              exact .nil _
            · rfl
            · exact keepOK_of hk hn rfl
            apply WPA.region
            · apply Trace.pu [] (.arith (.plain rfl) (.plain rfl) rfl (fun _ => bd64 (by omega)))
              apply Trace.pu [] (.move (.plain rfl))
              exact .nil _
            · exact keepOK_of hk hn rfl
            refine ⟨i + 1, by omega, by omega, ?_⟩
            rw [hup]
            exact (St.le_cons rfl (St.le_cons rfl (St.le_cons rfl (St.le_cons (slI (by omega)) (St.le_cons rfl (St.le_cons rfl (St.le_cons rfl (St.le_cons rfl (St.le_cons rfl (St.le_cons rfl (St.le_cons rfl (St.le_cons rfl (St.le_cons rfl (St.le_cons rfl (St.le_cons rfl (St.le_cons rfl (St.le_nil _)))))))))))))))))
          · have hup : g.lessTo part (part.getD (hd nx).toNat 0) s.w (i + 1) = w := by rw [hws, if_neg (by simpa [bif_and2] using hc6)]
            apply WPA.skip
            apply WPA.region
            · apply Trace.pu [] (.arith (.plain rfl) (.plain rfl) rfl (fun _ => bd64 (by omega)))
              apply Trace.pu [] (.move (.plain rfl))
              exact .nil _
            · exact keepOK_of hk hn rfl
            refine ⟨i + 1, by omega, by omega, ?_⟩
            rw [hup]
            exact (St.le_cons rfl (St.le_cons rfl (St.le_cons rfl (St.le_cons (slI (by omega)) (St.le_cons rfl (St.le_cons rfl (St.le_cons rfl (St.le_cons rfl (St.le_cons rfl (St.le_cons rfl (St.le_cons rfl (St.le_cons rfl (St.le_cons rfl (St.le_cons rfl (St.le_cons rfl (St.le_cons rfl (St.le_nil _)))))))))))))))))
        · have hie : i = g.es.length := by
            have : ¬ ((i : Int) < g.es.length) := by simpa using hc5
            omega
          subst hie
          apply WPA.exit
          have hel : (s.c.eraseIdx ix).length = s.c.length - 1 := by rw [List.length_eraseIdx, if_pos hx1]
          refine ⟨⟨s.c.eraseIdx ix, g.lessTo part (part.getD (hd nx).toNat 0) s.w g.es.length, s.o ++ [nx]⟩, ⟨fun r hr => hs1 r (List.mem_of_mem_eraseIdx hr), ?_, ?_, fun j => ?_, hstep⟩, ?_, ?_⟩
          · show (s.o ++ [nx]).length + (s.c.eraseIdx ix).length = _
            rw [hel, List.length_append, List.length_singleton]; omega
          · show (g.lessTo part (part.getD (hd nx).toNat 0) s.w g.es.length).length = _
            rw [lessTo_len, hs3]
          · have h1 := lessTo_bd g part (part.getD (hd nx).toNat 0) s.w g.es.length j
            have h2 := hs4 j
            show -(16384 * ((s.o ++ [nx]).length : Int)) ≤ (g.lessTo part (part.getD (hd nx).toNat 0) s.w g.es.length).getD j 0 ∧ (g.lessTo part (part.getD (hd nx).toNat 0) s.w g.es.length).getD j 0 ≤ 16384
            rw [List.length_append, List.length_singleton]; omega
          · show (s.c.eraseIdx ix).length < s.c.length
            omega
          exact (St.le_cons rfl (St.le_cons rfl (St.le_cons rfl (St.le_cons (by show some (Cont.av (.own 97 (s.c.length - 1))) = some (Cont.av (.own 97 (s.c.eraseIdx ix).length)); rw [hel]) (St.le_cons (by show some (Cont.av (.own 96 (s.o.length + 1))) = some (Cont.av (.own 96 (s.o ++ [nx]).length)); simp) (St.le_cons rfl (St.le_cons rfl (St.le_cons rfl (St.le_cons rfl (St.le_cons rfl (St.le_cons (by show some (Cont.blk (.app 1 (s.c.length - 1) _)) = some (Cont.blk (.app 1 (s.c.eraseIdx ix).length _)); rw [hel]) (St.le_cons (by show some (Cont.blk (.app 1 (s.o.length + 1) _)) = some (Cont.blk (.app 1 (s.o ++ [nx]).length _)); simp) (St.le_nil _)))))))))))))
      · obtain ⟨hs1, hs2, hs3, hs4, hs5⟩ := hs
        have hz : s.c.length = 0 := by
          have : ¬ ((0 : Int) < s.c.length) := of_decide_eq_false hc4
          omega
        rw [hz] at hs5
        have hso : s.o = out := by simpa [Gr.placeAll] using hs5
        rw [hso]
        apply WPA.exit
        apply WPA.seq
        refine WPA.ghost (Ghost.freezeAs (t := 6) (l := 96) (g := fun i => [rowD (out.getD i [])]) rfl rfl (fun i hi => by show [Col.at (.ds (dsC out)) i] = _; rw [dsC_at hi])) ?_
        apply WPA.region
        · apply Trace.pu [] (.move (.plain rfl))
          apply Trace.pu [] (.assign (.plain rfl))
          exact .nil _
        · exact keepOK_of hk hn rfl
        apply WPA.ret
        refine ⟨.inr rfl, ⟨_, (.cons (.tmp rfl) .nil), ?_⟩, (by simp [St.get])⟩
        rfl

end Go.Proofs.Ytglokdfdogmmhaa


/- order.Parts. -/
namespace Go.Proofs.Ytglokdfdogmmhaa
open Go
set_option linter.unusedVariables false
set_option linter.unusedSimpArgs false
set_option maxRecDepth 10000
set_option maxHeartbeats 2000000

theorem rep_ment {l : Nat} (n : Nat) : ∀ x ∈ List.replicate n nilS, ¬ Ment x l := by
  intro x hx hm
  have := (List.mem_replicate.1 hx).2
  subst this; cases hm
theorem famNil2_T {S S' : St} {l1 l2 n : Nat} (hle : S'.le S) (hs1 : S'.get (bk l1) = none) (hs2 : S'.get (bk l2) = none) : ∀ m c, St.get ((bk l1, .blk (.appv (matS (noRows (n + n)) 0 n))) :: (bk l2, .blk (.appv (matS (noRows (n + n)) n n))) :: (S' ++ fam (noRows (n + n)))) m = some c →
    (m = bk l1 ∧ c = .blk (.appv (matS (noRows (n + n)) 0 n))) ∨ (m = bk l2 ∧ c = .blk (.appv (matS (noRows (n + n)) n n))) ∨ (∃ i, m = bk (inn i) ∧ c = rowB []) ∨ (m ≠ bk l1 ∧ m ≠ bk l2 ∧ S.get m = some c) := fun m c e => by
  rw [get_cons] at e
  by_cases hm : bk l1 = m
  · rw [if_pos hm] at e; injection e with e; exact .inl ⟨hm.symm, e.symm⟩
  · rw [if_neg hm, get_cons] at e
    by_cases hm2 : bk l2 = m
    · rw [if_pos hm2] at e; injection e with e; exact .inr (.inl ⟨hm2.symm, e.symm⟩)
    · rw [if_neg hm2, get_app] at e
      cases hg : S'.get m with
      | some d => rw [hg] at e; simp only at e; injection e with e; subst e; exact .inr (.inr (.inr ⟨Ne.symm hm, Ne.symm hm2, hle _ _ hg⟩))
      | none =>
        rw [hg] at e; simp only at e
        obtain ⟨i, hi, h1, h2⟩ := fam_only e
        rw [noRows_at] at h2
        exact .inr (.inr (.inl ⟨i, h1, h2⟩))
theorem bothTo_zero (g : Gr) : g.bothTo 0 = noRows (g.lat.length + g.lat.length) := by
  show List.replicate g.lat.length [] ++ List.replicate g.lat.length [] = _
  rw [List.replicate_append_replicate]
theorem fam_left {A B : RL} : (fam A).le (fam (A ++ B)) := fun m c e => by
  obtain ⟨i, hi, rfl, rfl⟩ := fam_only e
  have := fam_get (rows := A ++ B) (i := i) (by rw [List.length_append]; omega)
  rw [this]
  have h2 : (A ++ B).getD i [] = A.getD i [] := by simp [List.getD_eq_getElem?_getD, List.getElem?_append_left hi]
  rw [h2]
theorem matS_left {A B : RL} {n : Nat} (hA : A.length = n) : matS (A ++ B) 0 n = matC A := by
  unfold matS matC
  rw [hA]
  refine List.map_congr_left fun i hi => ?_
  have hi : i < A.length := by rw [hA]; simpa using hi
  rw [Nat.zero_add]
  have h2 : (A ++ B).getD i [] = A.getD i [] := by simp [List.getD_eq_getElem?_getD, List.getElem?_append_left hi]
  rw [h2]
theorem right_rows {A B : RL} {n : Nat} (hA : A.length = n) (hB : B.length = n) : ((List.range n).map fun i => AV.d (rowD ((A ++ B).getD (n + i) []))) = (B.map rowD).map .d := by
  apply List.ext_getElem
  · simp [hB]
  · intro j h1 h2
    have hj : j < n := by simpa using h1
    have h3 : (A ++ B).getD (n + j) [] = B.getD j [] := by
      simp only [List.getD_eq_getElem?_getD]
      rw [List.getElem?_append_right (by omega), hA, Nat.add_sub_cancel_left]
    simp only [List.getElem_map, List.getElem_range]
    rw [h3, getD_lt _ _ (by omega)]
theorem padNil_T {S S' : St} {l : Nat} (hle : S'.le S) (hs : S'.get (bk l) = none) : ∀ m c, St.get ((bk l, .blk (.appv (matC (noRows 0)))) :: (S' ++ pad [])) m = some c → (m = bk l ∧ c = .blk (.appv (matC (noRows 0)))) ∨ (∃ i, m = bk (inn i) ∧ c = rowB []) ∨ (m ≠ bk l ∧ S.get m = some c) := fun m c e => by
  rw [get_cons] at e
  by_cases hm : bk l = m
  · rw [if_pos hm] at e; injection e with e; exact .inl ⟨hm.symm, e.symm⟩
  · rw [if_neg hm, get_app] at e
    cases hg : S'.get m with
    | some d => rw [hg] at e; simp only at e; injection e with e; subst e; exact .inr (.inr ⟨Ne.symm hm, hle _ _ hg⟩)
    | none =>
      rw [hg] at e; simp only at e
      obtain ⟨i, hi, h1, h2⟩ := pad_only e
      exact .inr (.inl ⟨i, h1, by rw [h2]; rfl⟩)
abbrev matN (all : RL) : List AV := matC all ++ [nilS]
theorem matN_get (all : RL) : (matN all)[all.length]? = some nilS := by
  rw [List.getElem?_append_right (by rw [matC_length]; exact Nat.le_refl _), matC_length]; simp
theorem matN_set (all : RL) (l : Nat) : (matN all).set all.length (.own l 0) = pushC all l 0 := by
  rw [List.set_append_right _ _ (by rw [matC_length]; exact Nat.le_refl _), matC_length]; simp
theorem matN_ment {all : RL} {k : Nat} (hk : k < 400) : ∀ x ∈ matN all, ¬ Ment x k := by
  intro x hx hm
  rcases List.mem_append.1 hx with hx | hx
  · exact matC_ment hk x hx hm
  · rw [List.mem_singleton] at hx; subst hx; cases hm
theorem matN_own {all : RL} : ∀ x ∈ matN all, (∃ i m, x = .own (inn i) m) ∨ ∃ d, x = .d d := by
  intro x hx
  rcases List.mem_append.1 hx with hx | hx
  · exact matC_own x hx
  · rw [List.mem_singleton] at hx; subst hx; exact .inr ⟨_, rfl⟩
theorem pushC_out {all : RL} {l m : Nat} (hl : l < 400) : ∀ x ∈ pushC all l m, ¬ Ment x (inn all.length) := by
  intro x hx hm
  rcases List.mem_append.1 hx with hx | hx
  · exact matC_out (Nat.le_refl _) x hx hm
  · rw [List.mem_singleton] at hx; subst hx
    generalize he : inn all.length = k at hm
    cases hm with
    | own => unfold inn at he; omega
theorem scc_rows {g : Gr} {part : List Int} {all : RL} (h : ∀ i, i < all.length → 0 < (all.getD i []).length ∧ (all.getD i []).Nodup ∧ ∀ x, x ∈ all.getD i [] ↔ ∃ u : Nat, x = (u : Int) ∧ u < g.lat.length ∧ part.getD u 0 = ((i + 1 : Nat) : Int)) (hn : g.lat.length ≤ 12) :
    ∀ r ∈ all, 0 < r.length ∧ r.length ≤ 1048576 ∧ ∀ x ∈ r, 0 ≤ x ∧ x.toNat < g.lat.length := fun r hr => by
  obtain ⟨i, hi, rfl⟩ := List.mem_iff_getElem.1 hr
  obtain ⟨h1, h2, h3⟩ := h i hi
  rw [getD_lt _ _ hi] at h1 h2 h3
  have hx : ∀ x ∈ all[i], 0 ≤ x ∧ x.toNat < g.lat.length := fun x hx => by
    obtain ⟨u, rfl, hu, _⟩ := (h3 x).1 hx
    exact ⟨by omega, by simpa using hu⟩
  refine ⟨h1, ?_, hx⟩
  have := nodup_small h2 hx
  omega
theorem bothTo_row (g : Gr) (i v : Nat) : ((g.bothTo i).getD v []).length ≤ i := by
  by_cases hv : v < g.lat.length
  · rw [bothTo_fst g i hv]; exact nextTo_row i v
  · obtain ⟨u, rfl⟩ : ∃ u, v = g.lat.length + u := ⟨v - g.lat.length, by omega⟩
    rw [bothTo_snd]; exact nextTo_row i u
/-- soundpost/order.Parts -/
theorem spec11 {g : Gr} (hz : g.Sz) (hn12 : g.lat.length ≤ 12) {out : RL} (hout : g.check = 0 → g.partsO = some out) : FnSpec Try.prog 11 [g.av] [] (.tup ([nextD (if g.check = 0 then out else []), .v (.int .i64 g.check)].map .d)) [] [] := by
  have hn1 := hz.n
  have hn2 := hz.m
  refine fnSpec_of_marks (rs := [.tmp 2, .tmp 3]) Try.func11 rfl rfl (Nat.le_of_ble_eq_true rfl) (by simp [St.get]) fun E hk hn => ?_
  apply WPA.seq
  apply WPA.region
  · first | apply Trace.boxD 1 [] (.plain rfl) rfl rfl | apply Trace.box 1 [] (.plain rfl) rfl rfl rfl
    apply Trace.pu [] (.assign (.plain rfl))
    apply Trace.pu [] (.assign (.plain rfl))
    exact .nil _
  · exact keepOK_of hk hn rfl
  apply WPA.seq
  apply WPA.seq
  apply WPA.region
  · first | apply Trace.pu [_] (.loadAllD ty25 (.plain rfl) rfl (by simp)) | apply Trace.pu [_] (.loadLocD ty25 (.plain rfl) rfl (fun _ => by simp)) | apply Trace.pu [_] (.loadLoc ty25 (.plain rfl) rfl (fun _ => Nat.le_of_ble_eq_true rfl)) | apply Trace.pu [] (.loadRp ty25 (.plain rfl) (fun _ => by decide)) | apply Trace.pu [] (.loadRp ty25 (.plain rfl) (fun _ => Nat.le_of_ble_eq_true rfl)) | apply Trace.pu [_] (.loadCol ty25 (.plain rfl) rfl rfl (fun _ => by decide) (fun _ => by omega)) | apply Trace.pu [_] (.loadArr ty25 (.plain rfl) rfl)
    apply Trace.cu (callArgs0 (.cons (.plain rfl) .nil)) (spec25 g hz) en25
    apply Trace.pu [] (.assign (.plain rfl))
    exact .nil _
  · exact keepOK_of hk hn rfl
  apply WPA.seq
  apply WPA.region
  · apply Trace.pu [] (.move (.plain rfl))
    apply Trace.pu [] (.cmp (.plain rfl) (.plain rfl) rfl)
    exact .nil _
  · exact keepOK_of hk hn rfl
  refine WPA.cond rfl (fun hc1 => ?_) (fun hc1 => ?_)
  · have hC : g.check ≠ 0 := by simpa using hc1
    apply WPA.seq
    apply WPA.region
    · apply Trace.pu [] (.move (.plain rfl))
      apply Trace.pu [] (.assign (.plain rfl))
      apply Trace.pu [] (.assign (.plain rfl))
      exact .nil _
    · exact keepOK_of hk hn rfl
    refine WPA.ghost (Ghost.slotEmp (t := 2) (n := 1) (g := fun i => [rowD (([] : RL).getD i [])]) rfl) ?_
    apply WPA.ret
    refine ⟨.inr rfl, ⟨_, (.cons (.tmp rfl) (.cons (.tmp rfl) .nil)), ?_⟩, by simp [St.get]⟩
    rw [if_neg hC]; rfl
  · have hC : g.check = 0 := by simpa using hc1
    have hok := check_ok2 hC
    have hm5 := hok.m
    apply WPA.skip
    apply WPA.seq
    apply WPA.region
    · apply Trace.pu [] (.fieldAddr fl25_0 (.plain rfl) rfl)
      first | apply Trace.pu [_] (.loadLoc1D ty22 (.plain rfl) rfl rfl) | apply Trace.pu [_] (.loadLoc1 ty22 (.plain rfl) rfl rfl) | apply Trace.pu [] (.loadRp1 ty22 (.plain rfl) rfl) | apply Trace.pu [_] (.loadCol1 ty22 (.plain rfl) rfl rfl rfl (fun _ => by omega))
      apply Trace.pu [] (.len rfl Try.underlying22 (.plain rfl) rfl)
      apply Trace.pu [] (.assign (.plain rfl))
      exact .nil _
    · exact keepOK_of hk hn rfl
    apply WPA.seq
    apply WPA.draw mixed
    · apply Trace.pu [] (.move (.plain rfl))
      apply Trace.makeSlice 27 [] so28 by22 zo22 rfl (by decide) (.plain rfl) (.plain rfl) ⟨by omega, by omega⟩ (by omega) (by omega) rfl rfl
      apply Trace.pu [] (.move (.plain rfl))
      apply Trace.makeSlice 29 [] so28 by22 zo22 rfl (by decide) (.plain rfl) (.plain rfl) ⟨by omega, by omega⟩ (by omega) (by omega) rfl rfl
      apply Trace.alloc 5 [] (.data _) zo28 (cellsAs_data _) rfl
      apply Trace.alloc 6 [] (.data _) zo28 (cellsAs_data _) rfl
      first | apply Trace.storeD ty28 (.plain rfl) (.plain rfl) rfl rfl rfl (by simp [AV.oneB, single]) (Nat.le_of_ble_eq_true rfl) rfl | apply Trace.storeDA ty28 (.plain rfl) (.plain rfl) rfl rfl rfl (by simp [AV.oneB, single]) (Nat.le_of_ble_eq_true rfl) rfl | apply Trace.storeLoc ty28 (.plain rfl) (.plain rfl) rfl rfl rfl (by simp [AV.oneB, single]) (Nat.le_of_ble_eq_true rfl) rfl | apply Trace.storeRow ty28 (.plain rfl) (.plain rfl) rfl rfl rfl rfl (by decide) (by simp [AV.oneB, single]) rfl (by omega)
      first | apply Trace.storeD ty28 (.plain rfl) (.plain rfl) rfl rfl rfl (by simp [AV.oneB, single]) (Nat.le_of_ble_eq_true rfl) rfl | apply Trace.storeDA ty28 (.plain rfl) (.plain rfl) rfl rfl rfl (by simp [AV.oneB, single]) (Nat.le_of_ble_eq_true rfl) rfl | apply Trace.storeLoc ty28 (.plain rfl) (.plain rfl) rfl rfl rfl (by simp [AV.oneB, single]) (Nat.le_of_ble_eq_true rfl) rfl | apply Trace.storeRow ty28 (.plain rfl) (.plain rfl) rfl rfl rfl rfl (by decide) (by simp [AV.oneB, single]) rfl (by omega)
      exact .nil _
    · rfl
    · exact keepOK_of hk hn rfl
    apply WPA.seq
    apply WPA.seq
    refine WPA.ghost (Ghost.toAppv (l := 27) rfl (by simp)) ?_
    refine WPA.ghost (Ghost.toAppv (l := 29) rfl (by simp)) ?_
    refine WPA.weaken (T := [(sl 1, .av (.loc 1 0)), (sl 2, .av (.d (.v (.slice none 0 0)))), (sl 4, .av (iv .i64 (g.lat.length))), (sl 5, .av (.loc 5 0)), (sl 6, .av (.loc 6 0)), (bk 1, .blk (.data g.ds)), (bk 5, .blk (.cells [.own 27 g.lat.length])), (bk 6, .blk (.cells [.own 29 g.lat.length])), (bk 27, .blk (.appv (List.replicate g.lat.length nilS))), (bk 29, .blk (.appv (List.replicate g.lat.length nilS)))]) ?_ (St.le_cons rfl (St.le_cons rfl (St.le_cons rfl (St.le_cons rfl (St.le_cons rfl (St.le_cons rfl (St.le_cons rfl (St.le_cons rfl (St.le_cons (appv_eq (by simp)) (St.le_cons (appv_eq (by simp)) (St.le_nil _)))))))))))
    refine WPA.ghost (Ghost.famNil2 (l1 := 27) (l2 := 29) (n := g.lat.length) (by decide) (by decide) rfl rfl (fun i => by repeat (first | rfl | refine get_skip ?_ rfl)) (fun i => by repeat (first | exact nm_nil | refine nm_appv (rep_ment _) ?_ | refine nm_cons rfl ?_)) (by rw [hk]; simp) (T := (bk 27, .blk (.appv (matS (noRows (g.lat.length + g.lat.length)) 0 g.lat.length))) :: (bk 29, .blk (.appv (matS (noRows (g.lat.length + g.lat.length)) g.lat.length g.lat.length))) :: ([(sl 1, .av (.loc 1 0)), (sl 2, .av (.d (.v (.slice none 0 0)))), (sl 4, .av (iv .i64 (g.lat.length))), (sl 5, .av (.loc 5 0)), (sl 6, .av (.loc 6 0)), (bk 1, .blk (.data g.ds)), (bk 5, .blk (.cells [.own 27 g.lat.length])), (bk 6, .blk (.cells [.own 29 g.lat.length]))] ++ fam (noRows (g.lat.length + g.lat.length)))) (famNil2_T (by repeat (first | exact St.le_refl _ | refine St.le_cons rfl ?_ | exact St.le_nil _)) rfl rfl)) ?_
    rw [← bothTo_zero g]
    apply WPA.region
    · apply Trace.pu [] (.fieldAddr fl25_1 (.plain rfl) rfl)
      first | apply Trace.pu [_] (.loadLoc1D ty23 (.plain rfl) rfl rfl) | apply Trace.pu [_] (.loadLoc1 ty23 (.plain rfl) rfl rfl) | apply Trace.pu [] (.loadRp1 ty23 (.plain rfl) rfl) | apply Trace.pu [_] (.loadCol1 ty23 (.plain rfl) rfl rfl rfl (fun _ => by omega))
      apply Trace.pu [] (.len rfl Try.underlying23 (.plain rfl) rfl)
      apply Trace.pu [] (.move (.plain rfl))
      exact .nil _
    · exact keepOK_of hk hn rfl
    apply WPA.block
    refine WPA.loop (σ := Nat) (fun i => (sl 1, .av (.loc 1 0)) :: (sl 2, .av (.d (.v (.slice none 0 0)))) :: (sl 4, .av (iv .i64 (g.lat.length))) :: (sl 5, .av (.loc 5 0)) :: (sl 6, .av (.loc 6 0)) :: (sl 31, .av (.d (edgesD g.es))) :: (sl 32, .av (iv .i64 (g.es.length))) :: (sl 33, .av (iv .i64 (i))) :: (bk 1, .blk (.data g.ds)) :: (bk 5, .blk (.cells [.own 27 g.lat.length])) :: (bk 6, .blk (.cells [.own 29 g.lat.length])) :: (bk 27, .blk (.appv (matS (g.bothTo i) 0 g.lat.length))) :: (bk 29, .blk (.appv (matS (g.bothTo i) g.lat.length g.lat.length))) :: fam (g.bothTo i)) (fun i => i ≤ g.es.length) (fun i => g.es.length - i) 0
      (St.le_cons rfl (St.le_cons rfl (St.le_cons rfl (St.le_cons rfl (St.le_cons rfl (St.le_cons rfl (St.le_cons rfl (St.le_cons rfl (St.le_cons rfl (St.le_cons rfl (St.le_cons rfl (St.le_cons rfl (St.le_cons rfl ((by repeat (first | exact St.le_refl _ | refine le_skip ?_ rfl)))))))))))))))) (Nat.zero_le _) fun i hi => ?_
    apply WPA.seq
    apply WPA.region
    · apply Trace.pu [] (.cmp (.plain rfl) (.plain rfl) rfl)
      exact .nil _
    · exact keepOK_of hk hn rfl
    apply WPA.seq
    refine WPA.cond rfl (fun hc2 => ?_) (fun hc2 => ?_)
    · have hlt : i < g.es.length := by simpa using hc2
      obtain ⟨e, he⟩ : ∃ e, g.es.getD i default = e := ⟨_, rfl⟩
      obtain ⟨hem, hef, het, hef0, het0⟩ := he ▸ Gr.edge hok hlt
      have hnx := bothTo_succ hok hlt he
      obtain ⟨rows, hrows⟩ : ∃ rows, g.bothTo i = rows := ⟨_, rfl⟩
      have hrl : rows.length = g.lat.length + g.lat.length := hrows ▸ bothTo_len g i
      have hrb : (rows.getD e.f.toNat []).length ≤ i := hrows ▸ bothTo_row g i e.f.toNat
      have hrb2 : (rows.getD (g.lat.length + e.t.toNat) []).length ≤ i := hrows ▸ bothTo_row g i (g.lat.length + e.t.toNat)
      rw [hrows] at hnx ⊢
      have hfl27 : e.f.toNat < rows.length := by omega
      have hcell27 : (matS rows 0 g.lat.length)[e.f.toNat]? = some (.own (inn e.f.toNat) (rows.getD e.f.toNat []).length) := by
        have := matS_get (rows := rows) (o := 0) hef
        rwa [Nat.zero_add] at this
      have hso27 : ∀ x ∈ ((matS rows 0 g.lat.length).set e.f.toNat (.own 95 (rows.getD e.f.toNat []).length)).set e.f.toNat (.own 47 ((rows.getD e.f.toNat []).length + 1)), ¬ Ment x (inn e.f.toNat) := by
        have := setS_out (rows := rows) (o := 0) (n := g.lat.length) (f := e.f.toNat) (l := 95) (k := 47) (m := (rows.getD e.f.toNat []).length) (p := (rows.getD e.f.toNat []).length + 1) (by decide)
        rwa [Nat.zero_add] at this
      apply WPA.skip
      apply WPA.seq
      apply WPA.block
      apply WPA.seq
      apply WPA.region
      · apply Trace.pu [] ((Pure.indexRows el23 (.plain rfl) (.plain rfl) (fun _ => ⟨by omega, by omega⟩)).to (y := .rp e.ds) (by show AV.rp (g.es.getD i default).ds = _; rw [he]))
        first | apply Trace.pu [_] (.loadAllD ty43 (.plain rfl) rfl (by simp)) | apply Trace.pu [_] (.loadLocD ty43 (.plain rfl) rfl (fun _ => by simp)) | apply Trace.pu [_] (.loadLoc ty43 (.plain rfl) rfl (fun _ => Nat.le_of_ble_eq_true rfl)) | apply Trace.pu [] (.loadRp ty43 (.plain rfl) (fun _ => by decide)) | apply Trace.pu [] (.loadRp ty43 (.plain rfl) (fun _ => Nat.le_of_ble_eq_true rfl)) | apply Trace.pu [_] (.loadCol ty43 (.plain rfl) rfl rfl (fun _ => by decide) (fun _ => by omega)) | apply Trace.pu [_] (.loadArr ty43 (.plain rfl) rfl)
        apply Trace.alloc 8 [] (.data _) zo43 (cellsAs_data _) (freshB_of (fun l hl => by
            simp only [List.mem_singleton] at hl; subst hl
            repeat (first | exact nm_nil | exact nm_fam | exact nm_but | refine nm_appv (matS_ment (by decide)) ?_ | refine nm_appv (setS_ment (by decide) (by decide)) ?_ | refine nm_appv (rep_ment _) ?_ | refine nm_cons rfl ?_)))
        first | apply Trace.storeD ty43 (.plain rfl) (.plain rfl) rfl rfl (by simp) (by simp [AV.oneB, single]) (by simp) (spliceL_all (by simp)) | apply Trace.storeD ty43 (.plain rfl) (.plain rfl) rfl rfl (by simp) (by simp [AV.oneB, single]) (by simp) rfl | apply Trace.storeDA ty43 (.plain rfl) (.plain rfl) rfl rfl (by simp) (by simp [AV.oneB, single]) (by simp) rfl | apply Trace.storeLoc ty43 (.plain rfl) (.plain rfl) rfl rfl (by simp) (by simp [AV.oneB, single]) (by simp) rfl | apply Trace.storeRow ty43 (.plain rfl) (.plain rfl) rfl rfl rfl rfl (by decide) (by simp [AV.oneB, single]) rfl (by omega)
        exact .nil _
      · exact keepOK_of hk hn rfl
      apply WPA.seq
      refine WPA.weaken (T := (sl 1, .av (.loc 1 0)) :: (sl 2, .av (.d (.v (.slice none 0 0)))) :: (sl 4, .av (iv .i64 (g.lat.length))) :: (sl 5, .av (.loc 5 0)) :: (sl 6, .av (.loc 6 0)) :: (sl 31, .av (.d (edgesD g.es))) :: (sl 32, .av (iv .i64 (g.es.length))) :: (sl 33, .av (iv .i64 (i))) :: (sl 8, .av (.loc 8 0)) :: (bk 1, .blk (.data g.ds)) :: (bk 5, .blk (.cells [.own 27 g.lat.length])) :: (bk 6, .blk (.cells [.own 29 g.lat.length])) :: (bk 8, .blk (.data e.ds)) :: (bk 27, .blk (.appv (matS rows 0 g.lat.length))) :: (bk 29, .blk (.appv (matS rows g.lat.length g.lat.length))) :: fam rows) ?_ (St.le_cons rfl (St.le_cons rfl (St.le_cons rfl (St.le_cons rfl (St.le_cons rfl (St.le_cons rfl (St.le_cons rfl (St.le_cons rfl (St.le_cons rfl (St.le_cons rfl (St.le_cons rfl (St.le_cons rfl (St.le_cons rfl (St.le_cons rfl (St.le_cons rfl ((by repeat (first | exact St.le_refl _ | refine le_skip ?_ rfl))))))))))))))))))
      refine WPA.ghost (Ghost.alias' (L := 27) (i := e.f.toNat) (a := inn e.f.toNat) (b := 95) (S' := (sl 1, .av (.loc 1 0)) :: (sl 2, .av (.d (.v (.slice none 0 0)))) :: (sl 4, .av (iv .i64 (g.lat.length))) :: (sl 5, .av (.loc 5 0)) :: (sl 6, .av (.loc 6 0)) :: (sl 31, .av (.d (edgesD g.es))) :: (sl 32, .av (iv .i64 (g.es.length))) :: (sl 33, .av (iv .i64 (i))) :: (sl 8, .av (.loc 8 0)) :: (bk 1, .blk (.data g.ds)) :: (bk 5, .blk (.cells [.own 27 g.lat.length])) :: (bk 6, .blk (.cells [.own 29 g.lat.length])) :: (bk 8, .blk (.data e.ds)) :: (bk 29, .blk (.appv (matS rows g.lat.length g.lat.length))) :: famBut rows e.f.toNat) rfl hcell27 (by repeat (first | exact fam_get hfl27 | refine get_skip ?_ rfl)) (by unfold inn; omega) (fam_small (by decide)) (by repeat (first | exact nm_nil | exact nm_fam | exact nm_but | refine nm_appv (matS_ment (by decide)) ?_ | refine nm_appv (setS_ment (by decide) (by decide)) ?_ | refine nm_appv (rep_ment _) ?_ | refine nm_cons rfl ?_)) (by rw [hk]; simp) (St.le_cons rfl (St.le_cons rfl (St.le_cons rfl (St.le_cons rfl (St.le_cons rfl (St.le_cons rfl (St.le_cons rfl (St.le_cons rfl (St.le_cons rfl (St.le_cons rfl (St.le_cons rfl (St.le_cons rfl (St.le_cons rfl (St.le_cons rfl ((by repeat (first | exact but_le | refine but_skip ?_ rfl))))))))))))))))) (by repeat (first | exact but_self | refine get_skip ?_ rfl))) ?_
      have hcs27 : ((matS rows 0 g.lat.length).set e.f.toNat (.own 95 (rows.getD e.f.toNat []).length))[e.f.toNat]? = some (.own 95 (rows.getD e.f.toNat []).length) := List.getElem?_set_self (by rw [matS_length]; exact hef)
      apply WPA.draw mixed
      · first | apply Trace.pu [_] (.loadLoc1D ty28 (.plain rfl) rfl rfl) | apply Trace.pu [_] (.loadLoc1 ty28 (.plain rfl) rfl rfl) | apply Trace.pu [] (.loadRp1 ty28 (.plain rfl) rfl) | apply Trace.pu [_] (.loadCol1 ty28 (.plain rfl) rfl rfl rfl (fun _ => by omega))
        apply Trace.pu [] (.fieldAddr fl43_0 (.plain rfl) rfl)
        first | apply Trace.pu [_] (.loadLoc1D ty3 (.plain rfl) rfl rfl) | apply Trace.pu [_] (.loadLoc1 ty3 (.plain rfl) rfl rfl) | apply Trace.pu [] (.loadRp1 ty3 (.plain rfl) rfl) | apply Trace.pu [_] (.loadCol1 ty3 (.plain rfl) rfl rfl rfl (fun _ => by omega))
        first | apply Trace.pu [_] (.loadLoc1D ty28 (.plain rfl) rfl rfl) | apply Trace.pu [_] (.loadLoc1 ty28 (.plain rfl) rfl rfl) | apply Trace.pu [] (.loadRp1 ty28 (.plain rfl) rfl) | apply Trace.pu [_] (.loadCol1 ty28 (.plain rfl) rfl rfl rfl (fun _ => by omega))
        apply Trace.pu [] (.fieldAddr fl43_0 (.plain rfl) rfl)
        first | apply Trace.pu [_] (.loadLoc1D ty3 (.plain rfl) rfl rfl) | apply Trace.pu [_] (.loadLoc1 ty3 (.plain rfl) rfl rfl) | apply Trace.pu [] (.loadRp1 ty3 (.plain rfl) rfl) | apply Trace.pu [_] (.loadCol1 ty3 (.plain rfl) rfl rfl rfl (fun _ => by omega))
        first | apply Trace.pu [] (.indexRows el28 (.plain rfl) (.plain rfl) (fun _ => ⟨by omega, by omega⟩)) | apply Trace.pu [] (.indexOwn el28 (.plain rfl) (.plain rfl) (fun _ => ⟨by omega, by omega⟩)) | apply Trace.pu [] (.indexSl el28 (.plain rfl) (.plain rfl) (fun _ => ⟨by omega, by omega⟩))
        apply Trace.pu [27] (.loadRowV ty22 (.plain rfl) rfl (fun _ => hcs27))
        apply Trace.pu [] (.fieldAddr fl43_1 (.plain rfl) rfl)
        first | apply Trace.pu [_] (.loadLoc1D ty3 (.plain rfl) rfl rfl) | apply Trace.pu [_] (.loadLoc1 ty3 (.plain rfl) rfl rfl) | apply Trace.pu [] (.loadRp1 ty3 (.plain rfl) rfl) | apply Trace.pu [_] (.loadCol1 ty3 (.plain rfl) rfl rfl rfl (fun _ => by omega))
        apply Trace.buildSlice 46 [] so22 zo3 rfl (by decide) (by decide) (.cons (.plain rfl) rfl rfl (Nat.le_of_ble_eq_true rfl) (.nil _ _)) rfl rfl (freshB_of (fun l hl => by
            simp only [List.mem_singleton] at hl; subst hl
            repeat (first | exact nm_nil | exact nm_fam | exact nm_but | refine nm_appv (matS_ment (by decide)) ?_ | refine nm_appv (setS_ment (by decide) (by decide)) ?_ | refine nm_appv (rep_ment _) ?_ | refine nm_cons rfl ?_)))
        apply Trace.append 47 [bk 95, bk 46, sl 44, sl 47] ap22 kd22 (by decide) (.own (.plain rfl) rfl) (.own (.plain rfl) rfl) (Col.ones rfl) (labs_ok rfl) (by omega) (by omega) rfl (freshB_of (fun l hl => by
            simp only [List.mem_singleton] at hl; subst hl
            repeat (first | exact nm_nil | exact nm_fam | exact nm_but | refine nm_appv (matS_ment (by decide)) ?_ | refine nm_appv (setS_ment (by decide) (by decide)) ?_ | refine nm_appv (rep_ment _) ?_ | refine nm_cons rfl ?_)))
        first | apply Trace.pu [] (.indexRows el28 (.plain rfl) (.plain rfl) (fun _ => ⟨by omega, by omega⟩)) | apply Trace.pu [] (.indexOwn el28 (.plain rfl) (.plain rfl) (fun _ => ⟨by omega, by omega⟩)) | apply Trace.pu [] (.indexSl el28 (.plain rfl) (.plain rfl) (fun _ => ⟨by omega, by omega⟩))
        apply Trace.storeRowV ty22 (.plain rfl) (.plain rfl) rfl rfl rfl (by rw [List.length_set, matS_length]; exact hef) rfl
        exact .nil _
      · exact drawB_of rfl (by repeat (first | exact freshL_nil | refine freshL_cons (by first | exact rfl | exact (freshB_of (fun l hl => by
    simp only [List.mem_singleton] at hl; subst hl
    repeat (first | exact nm_nil | exact nm_fam | exact nm_but | refine nm_appv (matS_ment (by decide)) ?_ | refine nm_appv (setS_ment (by decide) (by decide)) ?_ | refine nm_appv (rep_ment _) ?_ | refine nm_cons rfl ?_)))) ?_))
      · repeat (first | exact keepOK_nil | refine keepOK_cons (by first | exact axOK_of hk hn rfl | exact axOK_blk) ?_)
      refine WPA.weaken (T := (sl 1, .av (.loc 1 0)) :: (sl 2, .av (.d (.v (.slice none 0 0)))) :: (sl 4, .av (iv .i64 (g.lat.length))) :: (sl 5, .av (.loc 5 0)) :: (sl 6, .av (.loc 6 0)) :: (sl 31, .av (.d (edgesD g.es))) :: (sl 32, .av (iv .i64 (g.es.length))) :: (sl 33, .av (iv .i64 (i))) :: (sl 8, .av (.loc 8 0)) :: (bk 1, .blk (.data g.ds)) :: (bk 5, .blk (.cells [.own 27 g.lat.length])) :: (bk 6, .blk (.cells [.own 29 g.lat.length])) :: (bk 8, .blk (.data e.ds)) :: (bk 29, .blk (.appv (matS rows g.lat.length g.lat.length))) :: (bk 27, .blk (.appv (((matS rows 0 g.lat.length).set e.f.toNat (.own 95 (rows.getD e.f.toNat []).length)).set e.f.toNat (.own 47 ((rows.getD e.f.toNat []).length + 1))))) :: (bk 47, .blk (.app 1 ((rows.getD e.f.toNat []).length + 1) [.ints .i64 (rows.getD e.f.toNat [] ++ [e.t])])) :: famBut rows e.f.toNat) ?_ (St.le_cons rfl (St.le_cons rfl (St.le_cons rfl (St.le_cons rfl (St.le_cons rfl (St.le_cons rfl (St.le_cons rfl (St.le_cons rfl (St.le_cons rfl (St.le_cons rfl (St.le_cons rfl (St.le_cons rfl (St.le_cons rfl (St.le_cons rfl (St.le_cons rfl (St.le_cons rfl ((by repeat (first | exact St.le_refl _ | exact but_le | refine but_skip ?_ rfl | refine but_del ?_ rfl)))))))))))))))))))
      refine WPA.ghost (Ghost.alias' (L := 27) (i := e.f.toNat) (a := 47) (b := inn e.f.toNat) (S' := (sl 1, .av (.loc 1 0)) :: (sl 2, .av (.d (.v (.slice none 0 0)))) :: (sl 4, .av (iv .i64 (g.lat.length))) :: (sl 5, .av (.loc 5 0)) :: (sl 6, .av (.loc 6 0)) :: (sl 31, .av (.d (edgesD g.es))) :: (sl 32, .av (iv .i64 (g.es.length))) :: (sl 33, .av (iv .i64 (i))) :: (sl 8, .av (.loc 8 0)) :: (bk 1, .blk (.data g.ds)) :: (bk 5, .blk (.cells [.own 27 g.lat.length])) :: (bk 6, .blk (.cells [.own 29 g.lat.length])) :: (bk 8, .blk (.data e.ds)) :: (bk 29, .blk (.appv (matS rows g.lat.length g.lat.length))) :: famBut rows e.f.toNat) rfl (List.getElem?_set_self (by rw [List.length_set, matS_length]; exact hef)) rfl (by decide) (by repeat (first | exact but_self | refine get_skip ?_ rfl)) (by repeat (first | exact nm_but | refine nm_appv hso27 ?_ | refine nm_appv (matS_off (.inl hef)) ?_ | refine nm_cons rfl ?_)) (by rw [hk]; simp) (St.le_cons rfl (St.le_cons rfl (St.le_cons rfl (St.le_cons rfl (St.le_cons rfl (St.le_cons rfl (St.le_cons rfl (St.le_cons rfl (St.le_cons rfl (St.le_cons rfl (St.le_cons rfl (St.le_cons rfl (St.le_cons rfl (St.le_cons rfl ((by repeat (first | exact St.le_refl _ | exact but_le | refine but_skip ?_ rfl | refine but_del ?_ rfl))))))))))))))))) (but_small (by decide))) ?_
      obtain ⟨rows1, hrows1⟩ : ∃ r, rows.set e.f.toNat (rows.getD e.f.toNat [] ++ [e.t]) = r := ⟨_, rfl⟩
      have hr1l : rows1.length = g.lat.length + g.lat.length := by rw [← hrows1, List.length_set, hrl]
      have hfl29 : g.lat.length + e.t.toNat < rows1.length := by omega
      have hrow : rows1.getD (g.lat.length + e.t.toNat) [] = rows.getD (g.lat.length + e.t.toNat) [] := by
        rw [← hrows1]
        simp [List.getD_eq_getElem?_getD, List.getElem?_set, show ¬ e.f.toNat = g.lat.length + e.t.toNat by omega]
      have hm27 : (matS rows 0 g.lat.length).set e.f.toNat (.own (inn e.f.toNat) ((rows.getD e.f.toNat []).length + 1)) = matS rows1 0 g.lat.length := by
        have := matS_put (rows := rows) (o := 0) (n := g.lat.length) (f := e.f.toNat) (r := rows.getD e.f.toNat [] ++ [e.t]) (by omega)
        rw [Nat.zero_add, List.length_append, List.length_singleton, hrows1] at this
        exact this
      have hm29 : matS rows g.lat.length g.lat.length = matS rows1 g.lat.length g.lat.length := by rw [← hrows1]; exact (matS_other (.inl hef)).symm
      have hrb3 : (rows1.getD (g.lat.length + e.t.toNat) []).length ≤ i := by rw [hrow]; exact hrb2
      have hcell29 : (matS rows1 g.lat.length g.lat.length)[e.t.toNat]? = some (.own (inn (g.lat.length + e.t.toNat)) (rows1.getD (g.lat.length + e.t.toNat) []).length) := matS_get het
      have hso29 : ∀ x ∈ ((matS rows1 g.lat.length g.lat.length).set e.t.toNat (.own 95 (rows1.getD (g.lat.length + e.t.toNat) []).length)).set e.t.toNat (.own 47 ((rows1.getD (g.lat.length + e.t.toNat) []).length + 1)), ¬ Ment x (inn (g.lat.length + e.t.toNat)) := setS_out (by decide)
      have hnx2 : g.bothTo (i + 1) = rows1.set (g.lat.length + e.t.toNat) (rows1.getD (g.lat.length + e.t.toNat) [] ++ [e.f]) := by rw [hnx, hrows1, hrow]
      refine WPA.weaken (T := (sl 1, .av (.loc 1 0)) :: (sl 2, .av (.d (.v (.slice none 0 0)))) :: (sl 4, .av (iv .i64 (g.lat.length))) :: (sl 5, .av (.loc 5 0)) :: (sl 6, .av (.loc 6 0)) :: (sl 31, .av (.d (edgesD g.es))) :: (sl 32, .av (iv .i64 (g.es.length))) :: (sl 33, .av (iv .i64 (i))) :: (sl 8, .av (.loc 8 0)) :: (bk 1, .blk (.data g.ds)) :: (bk 5, .blk (.cells [.own 27 g.lat.length])) :: (bk 6, .blk (.cells [.own 29 g.lat.length])) :: (bk 8, .blk (.data e.ds)) :: (bk 27, .blk (.appv (matS rows1 0 g.lat.length))) :: (bk 29, .blk (.appv (matS rows1 g.lat.length g.lat.length))) :: fam rows1) ?_ (St.le_cons rfl (St.le_cons rfl (St.le_cons rfl (St.le_cons rfl (St.le_cons rfl (St.le_cons rfl (St.le_cons rfl (St.le_cons rfl (St.le_cons rfl (St.le_cons rfl (St.le_cons rfl (St.le_cons rfl (St.le_cons rfl (St.le_cons (appv_eq (by rw [List.set_set, List.set_set, hm27])) (St.le_cons (appv_eq hm29) ((by rw [← hrows1]; repeat (first | exact but_back (by repeat (first | exact St.le_refl _ | exact but_le | refine but_skip ?_ rfl | refine but_del ?_ rfl)) (by simp) | refine le_skip ?_ rfl))))))))))))))))))
      refine WPA.ghost (Ghost.alias' (L := 29) (i := e.t.toNat) (a := inn (g.lat.length + e.t.toNat)) (b := 95) (S' := (sl 1, .av (.loc 1 0)) :: (sl 2, .av (.d (.v (.slice none 0 0)))) :: (sl 4, .av (iv .i64 (g.lat.length))) :: (sl 5, .av (.loc 5 0)) :: (sl 6, .av (.loc 6 0)) :: (sl 31, .av (.d (edgesD g.es))) :: (sl 32, .av (iv .i64 (g.es.length))) :: (sl 33, .av (iv .i64 (i))) :: (sl 8, .av (.loc 8 0)) :: (bk 1, .blk (.data g.ds)) :: (bk 5, .blk (.cells [.own 27 g.lat.length])) :: (bk 6, .blk (.cells [.own 29 g.lat.length])) :: (bk 8, .blk (.data e.ds)) :: (bk 27, .blk (.appv (matS rows1 0 g.lat.length))) :: famBut rows1 (g.lat.length + e.t.toNat)) rfl hcell29 (by repeat (first | exact fam_get hfl29 | refine get_skip ?_ rfl)) (by unfold inn; omega) (fam_small (by decide)) (by repeat (first | exact nm_nil | exact nm_fam | exact nm_but | refine nm_appv (matS_ment (by decide)) ?_ | refine nm_appv (setS_ment (by decide) (by decide)) ?_ | refine nm_appv (rep_ment _) ?_ | refine nm_cons rfl ?_)) (by rw [hk]; simp) (St.le_cons rfl (St.le_cons rfl (St.le_cons rfl (St.le_cons rfl (St.le_cons rfl (St.le_cons rfl (St.le_cons rfl (St.le_cons rfl (St.le_cons rfl (St.le_cons rfl (St.le_cons rfl (St.le_cons rfl (St.le_cons rfl (St.le_cons rfl ((by repeat (first | exact but_le | refine but_skip ?_ rfl))))))))))))))))) (by repeat (first | exact but_self | refine get_skip ?_ rfl))) ?_
      have hcs29 : ((matS rows1 g.lat.length g.lat.length).set e.t.toNat (.own 95 (rows1.getD (g.lat.length + e.t.toNat) []).length))[e.t.toNat]? = some (.own 95 (rows1.getD (g.lat.length + e.t.toNat) []).length) := List.getElem?_set_self (by rw [matS_length]; exact het)
      apply WPA.draw mixed
      · first | apply Trace.pu [_] (.loadLoc1D ty28 (.plain rfl) rfl rfl) | apply Trace.pu [_] (.loadLoc1 ty28 (.plain rfl) rfl rfl) | apply Trace.pu [] (.loadRp1 ty28 (.plain rfl) rfl) | apply Trace.pu [_] (.loadCol1 ty28 (.plain rfl) rfl rfl rfl (fun _ => by omega))
        apply Trace.pu [] (.fieldAddr fl43_1 (.plain rfl) rfl)
        first | apply Trace.pu [_] (.loadLoc1D ty3 (.plain rfl) rfl rfl) | apply Trace.pu [_] (.loadLoc1 ty3 (.plain rfl) rfl rfl) | apply Trace.pu [] (.loadRp1 ty3 (.plain rfl) rfl) | apply Trace.pu [_] (.loadCol1 ty3 (.plain rfl) rfl rfl rfl (fun _ => by omega))
        first | apply Trace.pu [_] (.loadLoc1D ty28 (.plain rfl) rfl rfl) | apply Trace.pu [_] (.loadLoc1 ty28 (.plain rfl) rfl rfl) | apply Trace.pu [] (.loadRp1 ty28 (.plain rfl) rfl) | apply Trace.pu [_] (.loadCol1 ty28 (.plain rfl) rfl rfl rfl (fun _ => by omega))
        apply Trace.pu [] (.fieldAddr fl43_1 (.plain rfl) rfl)
        first | apply Trace.pu [_] (.loadLoc1D ty3 (.plain rfl) rfl rfl) | apply Trace.pu [_] (.loadLoc1 ty3 (.plain rfl) rfl rfl) | apply Trace.pu [] (.loadRp1 ty3 (.plain rfl) rfl) | apply Trace.pu [_] (.loadCol1 ty3 (.plain rfl) rfl rfl rfl (fun _ => by omega))
        first | apply Trace.pu [] (.indexRows el28 (.plain rfl) (.plain rfl) (fun _ => ⟨by omega, by omega⟩)) | apply Trace.pu [] (.indexOwn el28 (.plain rfl) (.plain rfl) (fun _ => ⟨by omega, by omega⟩)) | apply Trace.pu [] (.indexSl el28 (.plain rfl) (.plain rfl) (fun _ => ⟨by omega, by omega⟩))
        apply Trace.pu [29] (.loadRowV ty22 (.plain rfl) rfl (fun _ => hcs29))
        apply Trace.pu [] (.fieldAddr fl43_0 (.plain rfl) rfl)
        first | apply Trace.pu [_] (.loadLoc1D ty3 (.plain rfl) rfl rfl) | apply Trace.pu [_] (.loadLoc1 ty3 (.plain rfl) rfl rfl) | apply Trace.pu [] (.loadRp1 ty3 (.plain rfl) rfl) | apply Trace.pu [_] (.loadCol1 ty3 (.plain rfl) rfl rfl rfl (fun _ => by omega))
        apply Trace.buildSlice 46 [] so22 zo3 rfl (by decide) (by decide) (.cons (.plain rfl) rfl rfl (Nat.le_of_ble_eq_true rfl) (.nil _ _)) rfl rfl (freshB_of (fun l hl => by
            simp only [List.mem_singleton] at hl; subst hl
            repeat (first | exact nm_nil | exact nm_fam | exact nm_but | refine nm_appv (matS_ment (by decide)) ?_ | refine nm_appv (setS_ment (by decide) (by decide)) ?_ | refine nm_appv (rep_ment _) ?_ | refine nm_cons rfl ?_)))
        apply Trace.append 47 [bk 95, bk 46, sl 57, sl 60] ap22 kd22 (by decide) (.own (.plain rfl) rfl) (.own (.plain rfl) rfl) (Col.ones rfl) (labs_ok rfl) (by omega) (by omega) rfl (freshB_of (fun l hl => by
            simp only [List.mem_singleton] at hl; subst hl
            repeat (first | exact nm_nil | exact nm_fam | exact nm_but | refine nm_appv (matS_ment (by decide)) ?_ | refine nm_appv (setS_ment (by decide) (by decide)) ?_ | refine nm_appv (rep_ment _) ?_ | refine nm_cons rfl ?_)))
        first | apply Trace.pu [] (.indexRows el28 (.plain rfl) (.plain rfl) (fun _ => ⟨by omega, by omega⟩)) | apply Trace.pu [] (.indexOwn el28 (.plain rfl) (.plain rfl) (fun _ => ⟨by omega, by omega⟩)) | apply Trace.pu [] (.indexSl el28 (.plain rfl) (.plain rfl) (fun _ => ⟨by omega, by omega⟩))
        apply Trace.storeRowV ty22 (.plain rfl) (.plain rfl) rfl rfl rfl (by rw [List.length_set, matS_length]; exact het) rfl
        exact .nil _
      · exact drawB_of rfl (by repeat (first | exact freshL_nil | refine freshL_cons (by first | exact rfl | exact (freshB_of (fun l hl => by
    simp only [List.mem_singleton] at hl; subst hl
    repeat (first | exact nm_nil | exact nm_fam | exact nm_but | refine nm_appv (matS_ment (by decide)) ?_ | refine nm_appv (setS_ment (by decide) (by decide)) ?_ | refine nm_appv (rep_ment _) ?_ | refine nm_cons rfl ?_)))) ?_))
      · repeat (first | exact keepOK_nil | refine keepOK_cons (by first | exact axOK_of hk hn rfl | exact axOK_blk) ?_)
      refine WPA.weaken (T := (sl 1, .av (.loc 1 0)) :: (sl 2, .av (.d (.v (.slice none 0 0)))) :: (sl 4, .av (iv .i64 (g.lat.length))) :: (sl 5, .av (.loc 5 0)) :: (sl 6, .av (.loc 6 0)) :: (sl 31, .av (.d (edgesD g.es))) :: (sl 32, .av (iv .i64 (g.es.length))) :: (sl 33, .av (iv .i64 (i))) :: (sl 8, .av (.loc 8 0)) :: (bk 1, .blk (.data g.ds)) :: (bk 5, .blk (.cells [.own 27 g.lat.length])) :: (bk 6, .blk (.cells [.own 29 g.lat.length])) :: (bk 8, .blk (.data e.ds)) :: (bk 27, .blk (.appv (matS rows1 0 g.lat.length))) :: (bk 29, .blk (.appv (((matS rows1 g.lat.length g.lat.length).set e.t.toNat (.own 95 (rows1.getD (g.lat.length + e.t.toNat) []).length)).set e.t.toNat (.own 47 ((rows1.getD (g.lat.length + e.t.toNat) []).length + 1))))) :: (bk 47, .blk (.app 1 ((rows1.getD (g.lat.length + e.t.toNat) []).length + 1) [.ints .i64 (rows1.getD (g.lat.length + e.t.toNat) [] ++ [e.f])])) :: famBut rows1 (g.lat.length + e.t.toNat)) ?_ (St.le_cons rfl (St.le_cons rfl (St.le_cons rfl (St.le_cons rfl (St.le_cons rfl (St.le_cons rfl (St.le_cons rfl (St.le_cons rfl (St.le_cons rfl (St.le_cons rfl (St.le_cons rfl (St.le_cons rfl (St.le_cons rfl (St.le_cons rfl (St.le_cons rfl (St.le_cons rfl ((by repeat (first | exact St.le_refl _ | exact but_le | refine but_skip ?_ rfl | refine but_del ?_ rfl)))))))))))))))))))
      refine WPA.ghost (Ghost.alias' (L := 29) (i := e.t.toNat) (a := 47) (b := inn (g.lat.length + e.t.toNat)) (S' := (sl 1, .av (.loc 1 0)) :: (sl 2, .av (.d (.v (.slice none 0 0)))) :: (sl 4, .av (iv .i64 (g.lat.length))) :: (sl 5, .av (.loc 5 0)) :: (sl 6, .av (.loc 6 0)) :: (sl 31, .av (.d (edgesD g.es))) :: (sl 32, .av (iv .i64 (g.es.length))) :: (sl 33, .av (iv .i64 (i))) :: (sl 8, .av (.loc 8 0)) :: (bk 1, .blk (.data g.ds)) :: (bk 5, .blk (.cells [.own 27 g.lat.length])) :: (bk 6, .blk (.cells [.own 29 g.lat.length])) :: (bk 8, .blk (.data e.ds)) :: (bk 27, .blk (.appv (matS rows1 0 g.lat.length))) :: famBut rows1 (g.lat.length + e.t.toNat)) rfl (List.getElem?_set_self (by rw [List.length_set, matS_length]; exact het)) rfl (by decide) (by repeat (first | exact but_self | refine get_skip ?_ rfl)) (by repeat (first | exact nm_but | refine nm_appv hso29 ?_ | refine nm_appv (matS_off (.inr (by omega))) ?_ | refine nm_cons rfl ?_)) (by rw [hk]; simp) (St.le_cons rfl (St.le_cons rfl (St.le_cons rfl (St.le_cons rfl (St.le_cons rfl (St.le_cons rfl (St.le_cons rfl (St.le_cons rfl (St.le_cons rfl (St.le_cons rfl (St.le_cons rfl (St.le_cons rfl (St.le_cons rfl (St.le_cons rfl ((by repeat (first | exact St.le_refl _ | exact but_le | refine but_skip ?_ rfl | refine but_del ?_ rfl))))))))))))))))) (but_small (by decide))) ?_
      apply WPA.region
      · apply Trace.pu [] (.arith (.plain rfl) (.plain rfl) rfl (fun _ => bd64 (by omega)))
        apply Trace.pu [] (.move (.plain rfl))
        exact .nil _
      · exact keepOK_of hk hn rfl
      refine ⟨i + 1, by omega, by omega, ?_⟩
      rw [hnx2]
      exact (St.le_cons rfl (St.le_cons rfl (St.le_cons rfl (St.le_cons rfl (St.le_cons rfl (St.le_cons rfl (St.le_cons rfl (St.le_cons (slI (by omega)) (St.le_cons rfl (St.le_cons rfl (St.le_cons rfl (St.le_cons (appv_eq (matS_other (.inr (by omega))).symm) (St.le_cons (appv_eq (by rw [List.set_set, List.set_set, ← matS_put hfl29, List.length_append, List.length_singleton])) ((by repeat (first | exact but_back (by repeat (first | exact St.le_refl _ | exact but_le | refine but_skip ?_ rfl | refine but_del ?_ rfl)) (by simp) | refine le_skip ?_ rfl))))))))))))))))
    · have hie : i = g.es.length := by
        have : ¬ ((i : Int) < g.es.length) := by simpa using hc2
        omega
      subst hie
      have hb0 : g.bothTo g.es.length = g.next ++ g.rev.next := by
        show g.nextTo g.es.length ++ g.rev.nextTo g.es.length = g.nextTo g.es.length ++ g.rev.nextTo g.rev.es.length
        rw [rev_len]
      obtain ⟨A, hA⟩ : ∃ A, g.next = A := ⟨_, rfl⟩
      obtain ⟨B, hB⟩ : ∃ B, g.rev.next = B := ⟨_, rfl⟩
      have hAl : A.length = g.lat.length := by rw [← hA]; exact nextTo_len g _
      have hBl : B.length = g.lat.length := by rw [← hB]; exact nextTo_len g.rev _
      rw [hb0, hA, hB]
      refine WPA.weaken (T := (sl 1, .av (.loc 1 0)) :: (sl 2, .av (.d (.v (.slice none 0 0)))) :: (sl 4, .av (iv .i64 (g.lat.length))) :: (sl 5, .av (.loc 5 0)) :: (sl 6, .av (.loc 6 0)) :: (bk 1, .blk (.data g.ds)) :: (bk 5, .blk (.cells [.own 27 g.lat.length])) :: (bk 6, .blk (.cells [.own 29 g.lat.length])) :: (bk 27, .blk (.appv (matS (A ++ B) 0 g.lat.length))) :: (bk 29, .blk (.appv (matS (A ++ B) g.lat.length g.lat.length))) :: fam (A ++ B)) ?_ (St.le_cons rfl (St.le_cons rfl (St.le_cons rfl (St.le_cons rfl (St.le_cons rfl (St.le_cons rfl (St.le_cons rfl (St.le_cons rfl (St.le_cons rfl (St.le_cons rfl ((by repeat (first | exact St.le_refl _ | refine le_skip ?_ rfl)))))))))))))
      refine WPA.ghost (Ghost.famFreezeS (l := 29) (o := g.lat.length) (n := g.lat.length) (rows := A ++ B) (S' := (sl 1, .av (.loc 1 0)) :: (sl 2, .av (.d (.v (.slice none 0 0)))) :: (sl 4, .av (iv .i64 (g.lat.length))) :: (sl 5, .av (.loc 5 0)) :: (sl 6, .av (.loc 6 0)) :: (bk 1, .blk (.data g.ds)) :: (bk 5, .blk (.cells [.own 27 g.lat.length])) :: (bk 6, .blk (.cells [.own 29 g.lat.length])) :: (bk 27, .blk (.appv (matS (A ++ B) 0 g.lat.length))) :: fam A) (by decide) (by rw [List.length_append, hAl, hBl]; exact Nat.le_refl _) rfl (by repeat (first | exact St.le_refl _ | refine le_skip ?_ rfl)) (St.le_cons rfl (St.le_cons rfl (St.le_cons rfl (St.le_cons rfl (St.le_cons rfl (St.le_cons rfl (St.le_cons rfl (St.le_cons rfl (St.le_cons rfl ((by repeat (first | exact fam_left | refine le_skip ?_ rfl)))))))))))) (fun i h1 h2 => by repeat (first | exact fam_out (by omega) | refine get_skip ?_ rfl))) ?_
      refine WPA.weaken (T := (sl 1, .av (.loc 1 0)) :: (sl 2, .av (.d (.v (.slice none 0 0)))) :: (sl 4, .av (iv .i64 (g.lat.length))) :: (sl 5, .av (.loc 5 0)) :: (sl 6, .av (.loc 6 0)) :: (bk 1, .blk (.data g.ds)) :: (bk 5, .blk (.cells [.own 27 g.lat.length])) :: (bk 6, .blk (.cells [.own 29 g.lat.length])) :: (bk 29, .blk (.appv ((B.map rowD).map .d))) :: (bk 27, .blk (.appv (matC A))) :: fam A) ?_ (St.le_cons rfl (St.le_cons rfl (St.le_cons rfl (St.le_cons rfl (St.le_cons rfl (St.le_cons rfl (St.le_cons rfl (St.le_cons rfl (St.le_cons (appv_eq (right_rows hAl hBl)) (St.le_cons (appv_eq (matS_left hAl)) ((by repeat (first | exact St.le_refl _ | refine le_skip ?_ rfl)))))))))))))
      refine WPA.ghost (Ghost.famFreeze (l := 27) (rows := A) (S' := [(sl 1, .av (.loc 1 0)), (sl 2, .av (.d (.v (.slice none 0 0)))), (sl 4, .av (iv .i64 (g.lat.length))), (sl 5, .av (.loc 5 0)), (sl 6, .av (.loc 6 0)), (bk 1, .blk (.data g.ds)), (bk 5, .blk (.cells [.own 27 g.lat.length])), (bk 6, .blk (.cells [.own 29 g.lat.length])), (bk 29, .blk (.appv ((B.map rowD).map .d)))]) (by decide) rfl (by repeat (first | exact St.le_refl _ | refine le_skip ?_ rfl)) (St.le_cons rfl (St.le_cons rfl (St.le_cons rfl (St.le_cons rfl (St.le_cons rfl (St.le_cons rfl (St.le_cons rfl (St.le_cons rfl (St.le_cons rfl (St.le_nil _)))))))))) (fun i => by repeat (first | rfl | refine get_skip ?_ rfl))) ?_
      refine WPA.weaken (T := [(sl 1, .av (.loc 1 0)), (sl 2, .av (.d (.v (.slice none 0 0)))), (sl 4, .av (iv .i64 (g.lat.length))), (sl 5, .av (.loc 5 0)), (sl 6, .av (.loc 6 0)), (bk 1, .blk (.data g.ds)), (bk 5, .blk (.cells [.own 27 g.lat.length])), (bk 6, .blk (.cells [.own 29 g.lat.length])), (bk 29, .blk (.appv ((B.map rowD).map .d))), (bk 27, .blk (.appv ((A.map rowD).map .d)))]) ?_ (St.le_cons rfl (St.le_cons rfl (St.le_cons rfl (St.le_cons rfl (St.le_cons rfl (St.le_cons rfl (St.le_cons rfl (St.le_cons rfl (St.le_cons rfl (St.le_cons (appv_eq (by rw [List.map_map]; rfl)) (St.le_nil _)))))))))))
      refine WPA.ghost (Ghost.fromAppv (l := 27) (n := g.lat.length) rfl (by rw [List.length_map]; exact hAl)) ?_
      refine WPA.ghost (Ghost.fromAppv (l := 29) (n := g.lat.length) rfl (by rw [List.length_map]; exact hBl)) ?_
      refine WPA.ghost (Ghost.cellFreeze (lb := 5) (j := 0) (l := 27) (g := fun i => [rowD (A.getD i [])]) rfl rfl rfl rfl (fun i hi => by show [Col.at (.ds (dsC A)) i] = _; rw [dsC_at (by omega)]) rfl) ?_
      refine WPA.ghost (Ghost.cellFreeze (lb := 6) (j := 0) (l := 29) (g := fun i => [rowD (B.getD i [])]) rfl rfl rfl rfl (fun i hi => by show [Col.at (.ds (dsC B)) i] = _; rw [dsC_at (by omega)]) rfl) ?_
      refine WPA.weaken (T := [(sl 1, .av (.loc 1 0)), (sl 2, .av (.d (.v (.slice none 0 0)))), (sl 4, .av (iv .i64 (g.lat.length))), (sl 5, .av (.loc 5 0)), (sl 6, .av (.loc 6 0)), (bk 1, .blk (.data g.ds)), (bk 5, .blk (.cells [.d (nextD A)])), (bk 6, .blk (.cells [.d (nextD B)]))]) ?_ (St.le_cons rfl (St.le_cons rfl (St.le_cons rfl (St.le_cons rfl (St.le_cons rfl (St.le_cons rfl (St.le_cons (by show some (Cont.blk (.cells [.d (.rows 1 g.lat.length _)])) = some (Cont.blk (.cells [.d (.rows 1 A.length _)])); rw [hAl]) (St.le_cons (by show some (Cont.blk (.cells [.d (.rows 1 g.lat.length _)])) = some (Cont.blk (.cells [.d (.rows 1 B.length _)])); rw [hBl]) (St.le_nil _)))))))))
      have hrA : ∀ v, ∀ t ∈ A.getD v [], 0 ≤ t ∧ t.toNat < g.lat.length := by rw [← hA]; exact next_ok hok
      have hrB : ∀ v, ∀ t ∈ B.getD v [], 0 ≤ t ∧ t.toNat < g.lat.length := by rw [← hB]; exact next_ok (rev_ok hok)
      have hqA : ∀ v, (A.getD v []).length ≤ 1048576 := fun v => by
        have := nextTo_row (g := g) g.es.length v
        rw [← hA]; show ((g.nextTo g.es.length).getD v []).length ≤ _; omega
      have hqB : ∀ v, (B.getD v []).length ≤ 1048576 := fun v => by
        have := nextTo_row (g := g.rev) g.rev.es.length v
        have h2 := rev_len g
        rw [← hB]; show ((g.rev.nextTo g.rev.es.length).getD v []).length ≤ _; omega
      apply WPA.exit
      apply WPA.seq
      apply WPA.region
      · apply Trace.pu [] (.move (.plain rfl))
        apply Trace.makeSlice 53 [] so45 by4 zo4 rfl (by decide) (.plain rfl) (.plain rfl) ⟨by omega, by omega⟩ (by omega) (by omega) rfl rfl
        apply Trace.buildSlice 90 [] so22 zo3 rfl (by decide) (by decide) (.nil _ _) rfl rfl rfl
        apply Trace.alloc 9 [] (.data _) zo45 (cellsAs_data _) rfl
        apply Trace.alloc 10 [] (.data _) zo22 (cellsAs_data _) rfl
        first | apply Trace.storeD ty45 (.plain rfl) (.plain rfl) rfl rfl rfl (by simp [AV.oneB, single]) (Nat.le_of_ble_eq_true rfl) rfl | apply Trace.storeDA ty45 (.plain rfl) (.plain rfl) rfl rfl rfl (by simp [AV.oneB, single]) (Nat.le_of_ble_eq_true rfl) rfl | apply Trace.storeLoc ty45 (.plain rfl) (.plain rfl) rfl rfl rfl (by simp [AV.oneB, single]) (Nat.le_of_ble_eq_true rfl) rfl | apply Trace.storeRow ty45 (.plain rfl) (.plain rfl) rfl rfl rfl rfl (by decide) (by simp [AV.oneB, single]) rfl (by omega)
        first | apply Trace.storeD ty22 (.plain rfl) (.plain rfl) rfl rfl rfl (by simp [AV.oneB, single]) (Nat.le_of_ble_eq_true rfl) rfl | apply Trace.storeDA ty22 (.plain rfl) (.plain rfl) rfl rfl rfl (by simp [AV.oneB, single]) (Nat.le_of_ble_eq_true rfl) rfl | apply Trace.storeLoc ty22 (.plain rfl) (.plain rfl) rfl rfl rfl (by simp [AV.oneB, single]) (Nat.le_of_ble_eq_true rfl) rfl | apply Trace.storeRow ty22 (.plain rfl) (.plain rfl) rfl rfl rfl rfl (by decide) (by simp [AV.oneB, single]) rfl (by omega)
        exact .nil _
      · exact keepOK_of hk hn rfl
      apply WPA.seq
      apply WPA.region
      · apply Trace.alloc 11 [] (.data _) zo50 (cellsAs_data _) rfl
        exact .nil _
      · exact keepOK_of hk hn rfl
      apply WPA.seq
      apply WPA.region
      · apply Trace.pu [] (.funcL (.cons (.plain rfl) (.cons (.plain rfl) (.cons (.plain rfl) (.cons (.plain rfl) .nil)))))
        first | apply Trace.storeD ty50 (.plain rfl) (.plain rfl) rfl rfl rfl (by simp [AV.oneB, single]) (Nat.le_of_ble_eq_true rfl) rfl | apply Trace.storeDA ty50 (.plain rfl) (.plain rfl) rfl rfl rfl (by simp [AV.oneB, single]) (Nat.le_of_ble_eq_true rfl) rfl | apply Trace.storeLoc ty50 (.plain rfl) (.plain rfl) rfl rfl rfl (by simp [AV.oneB, single]) (Nat.le_of_ble_eq_true rfl) rfl | apply Trace.storeRow ty50 (.plain rfl) (.plain rfl) rfl rfl rfl rfl (by decide) (by simp [AV.oneB, single]) rfl (by omega)
        exact .nil _
      · exact keepOK_of hk hn rfl
      apply WPA.seq
      apply WPA.seq
      refine WPA.ghost (Ghost.dsInts (l := 90) (len := 0) (k := .i64) (xs := []) (ds := []) rfl rfl) ?_
      apply WPA.region
      · apply Trace.pu [] (.move (.plain rfl))
        apply Trace.pu [] (.move (.plain rfl))
        exact .nil _
      · exact keepOK_of hk hn rfl
      apply WPA.block
      refine WPA.loop (σ := Nat) (fun i => [(sl 1, .av (.loc 1 0)), (sl 2, .av (.d (.v (.slice none 0 0)))), (sl 4, .av (iv .i64 (g.lat.length))), (sl 6, .av (.loc 6 0)), (sl 9, .av (.loc 9 0)), (sl 10, .av (.loc 10 0)), (sl 11, .av (.loc 11 0)), (sl 68, .av (iv .i64 (g.lat.length))), (sl 69, .av (iv .i64 (i))), (bk 1, .blk (.data g.ds)), (bk 6, .blk (.cells [.d (nextD B)])), (bk 9, .blk (.cells [.own 53 g.lat.length])), (bk 53, .blk (.app 1 g.lat.length [.bools (leftTo A g.lat.length i).1])), (bk 10, .blk (.cells [.own 90 (leftTo A g.lat.length i).2.length])), (bk 90, .blk (.app 1 (leftTo A g.lat.length i).2.length [.ints .i64 (leftTo A g.lat.length i).2])), (bk 5, .blk (.cells [.d (nextD A)])), (bk 11, .blk (.cells [.fn 26 visA]))]) (fun i => i ≤ g.lat.length) (fun i => g.lat.length - i) 0
        (St.le_cons rfl (St.le_cons rfl (St.le_cons rfl (St.le_cons rfl (St.le_cons rfl (St.le_cons rfl (St.le_cons rfl (St.le_cons rfl (St.le_cons rfl (St.le_cons rfl (St.le_cons rfl (St.le_cons rfl (St.le_cons rfl (St.le_cons rfl (St.le_cons rfl (St.le_cons rfl (St.le_cons rfl (St.le_nil _)))))))))))))))))) (Nat.zero_le _) fun i hi => ?_
      apply WPA.seq
      apply WPA.region
      · apply Trace.pu [] (.cmp (.plain rfl) (.plain rfl) rfl)
        exact .nil _
      · exact keepOK_of hk hn rfl
      apply WPA.seq
      refine WPA.cond rfl (fun hc3 => ?_) (fun hc3 => ?_)
      · have hlt : i < g.lat.length := by simpa using hc3
        obtain ⟨l1, l2⟩ := leftTo_more hrA i hi
        have hls := leftTo_succ A g.lat.length i
        generalize leftTo A g.lat.length i = a at l1 l2 hls ⊢
        apply WPA.skip
        apply WPA.seq
        apply WPA.block
        apply WPA.seq
        apply WPA.region
        · apply Trace.pu [] (.move (.plain rfl))
          apply Trace.pu [] (.assign (.plain rfl))
          exact .nil _
        · exact keepOK_of hk hn rfl
        apply WPA.seq
        apply WPA.region
        · first | apply Trace.pu [_] (.loadLoc1D ty45 (.plain rfl) rfl rfl) | apply Trace.pu [_] (.loadLoc1 ty45 (.plain rfl) rfl rfl) | apply Trace.pu [] (.loadRp1 ty45 (.plain rfl) rfl) | apply Trace.pu [_] (.loadCol1 ty45 (.plain rfl) rfl rfl rfl (fun _ => by omega))
          apply Trace.pu [] (.move (.plain rfl))
          first | apply Trace.pu [] (.indexRows el45 (.plain rfl) (.plain rfl) (fun _ => ⟨by omega, by omega⟩)) | apply Trace.pu [] (.indexOwn el45 (.plain rfl) (.plain rfl) (fun _ => ⟨by omega, by omega⟩)) | apply Trace.pu [] (.indexSl el45 (.plain rfl) (.plain rfl) (fun _ => ⟨by omega, by omega⟩))
          first | apply Trace.pu [_] (.loadLoc1D ty4 (.plain rfl) rfl rfl) | apply Trace.pu [_] (.loadLoc1 ty4 (.plain rfl) rfl rfl) | apply Trace.pu [] (.loadRp1 ty4 (.plain rfl) rfl) | apply Trace.pu [_] (.loadCol1 ty4 (.plain rfl) rfl rfl rfl (fun _ => by omega))
          apply Trace.pu [] (.not (.plain rfl))
          exact .nil _
        · exact keepOK_of hk hn rfl
        refine WPA.cond rfl (fun hc4 => ?_) (fun hc4 => ?_)
        · have hst : seen a.1 i = false := by simpa [seen] using hc4
          have hrec := spec26 hAl hrA hqA (by omega) g.lat.length a i l1 hlt (by omega) hst (by omega)
          rw [if_neg (by rw [hst]; decide)] at hls
          apply WPA.region
          · first | apply Trace.pu [_] (.loadLoc1D ty50 (.plain rfl) rfl rfl) | apply Trace.pu [_] (.loadLoc1 ty50 (.plain rfl) rfl rfl) | apply Trace.pu [] (.loadRp1 ty50 (.plain rfl) rfl) | apply Trace.pu [_] (.loadCol1 ty50 (.plain rfl) rfl rfl rfl (fun _ => by omega))
            apply Trace.pu [] (.move (.plain rfl))
            apply Trace.cb [90] [bk 9, bk 53, bk 10, bk 90, bk 5, bk 11] (callArgs (.plain rfl) (.cons (.plain rfl) .nil)) hrec en26 (.cons rfl (.cons rfl (.cons rfl (.cons rfl (.cons rfl (.cons rfl (.nil))))))) rfl rfl
            exact .nil _
          · exact keepOK_of hk hn rfl
          apply WPA.region
          · apply Trace.pu [] (.arith (.plain rfl) (.plain rfl) rfl (fun _ => bd64 (by omega)))
            apply Trace.pu [] (.move (.plain rfl))
            exact .nil _
          · exact keepOK_of hk hn rfl
          refine ⟨i + 1, by omega, by omega, ?_⟩
          rw [hls]
          exact (St.le_cons rfl (St.le_cons rfl (St.le_cons rfl (St.le_cons rfl (St.le_cons rfl (St.le_cons rfl (St.le_cons rfl (St.le_cons rfl (St.le_cons (slI (by omega)) (St.le_cons rfl (St.le_cons rfl (St.le_cons rfl (St.le_cons rfl (St.le_cons rfl (St.le_cons rfl (St.le_cons rfl (St.le_cons rfl (St.le_nil _))))))))))))))))))
        · have hst : seen a.1 i = true := by simpa [seen] using hc4
          rw [if_pos hst] at hls
          apply WPA.skip
          apply WPA.region
          · apply Trace.pu [] (.arith (.plain rfl) (.plain rfl) rfl (fun _ => bd64 (by omega)))
            apply Trace.pu [] (.move (.plain rfl))
            exact .nil _
          · exact keepOK_of hk hn rfl
          refine ⟨i + 1, by omega, by omega, ?_⟩
          rw [hls]
          exact (St.le_cons rfl (St.le_cons rfl (St.le_cons rfl (St.le_cons rfl (St.le_cons rfl (St.le_cons rfl (St.le_cons rfl (St.le_cons rfl (St.le_cons (slI (by omega)) (St.le_cons rfl (St.le_cons rfl (St.le_cons rfl (St.le_cons rfl (St.le_cons rfl (St.le_cons rfl (St.le_cons rfl (St.le_cons rfl (St.le_nil _))))))))))))))))))
      · have hie : i = g.lat.length := by
          have : ¬ ((i : Int) < g.lat.length) := by simpa using hc3
          omega
        subst hie
        obtain ⟨L, hL⟩ : ∃ L, (leftTo A g.lat.length g.lat.length).2 = L := ⟨_, rfl⟩
        have hLl : L.length = g.lat.length := by rw [← hL]; exact left_len hrA
        have hLm := (left_mem hrA).2
        rw [hL] at hLm
        refine WPA.ghost (Ghost.cellFreeze (lb := 10) (j := 0) (l := 90) (g := fun i => [Col.at (.ints .i64 L) i]) rfl rfl rfl rfl (fun i hi => by rw [hL]; rfl) rfl) ?_
        refine WPA.weaken (T := [(sl 1, .av (.loc 1 0)), (sl 2, .av (.d (.v (.slice none 0 0)))), (sl 4, .av (iv .i64 (g.lat.length))), (sl 6, .av (.loc 6 0)), (sl 10, .av (.loc 10 0)), (bk 1, .blk (.data g.ds)), (bk 6, .blk (.cells [.d (nextD B)])), (bk 10, .blk (.cells [.d (intsD L)]))]) ?_ (St.le_cons rfl (St.le_cons rfl (St.le_cons rfl (St.le_cons rfl (St.le_cons rfl (St.le_cons rfl (St.le_cons rfl (St.le_cons (by rw [← hL]; rfl) (St.le_nil _)))))))))
        apply WPA.exit
        apply WPA.seq
        apply WPA.region
        · apply Trace.pu [] (.move (.plain rfl))
          apply Trace.makeSlice 54 [] so22 by3 zo3 rfl (by decide) (.plain rfl) (.plain rfl) ⟨by omega, by omega⟩ (by omega) (by omega) rfl rfl
          apply Trace.alloc 13 [] (.data _) zo22 (cellsAs_data _) rfl
          first | apply Trace.storeD ty22 (.plain rfl) (.plain rfl) rfl rfl rfl (by simp [AV.oneB, single]) (Nat.le_of_ble_eq_true rfl) rfl | apply Trace.storeDA ty22 (.plain rfl) (.plain rfl) rfl rfl rfl (by simp [AV.oneB, single]) (Nat.le_of_ble_eq_true rfl) rfl | apply Trace.storeLoc ty22 (.plain rfl) (.plain rfl) rfl rfl rfl (by simp [AV.oneB, single]) (Nat.le_of_ble_eq_true rfl) rfl | apply Trace.storeRow ty22 (.plain rfl) (.plain rfl) rfl rfl rfl rfl (by decide) (by simp [AV.oneB, single]) rfl (by omega)
          exact .nil _
        · exact keepOK_of hk hn rfl
        apply WPA.seq
        apply WPA.region
        · apply Trace.alloc 14 [] (.data _) zo28 (cellsAs_data _) rfl
          exact .nil _
        · exact keepOK_of hk hn rfl
        apply WPA.seq
        apply WPA.region
        · apply Trace.alloc 15 [] (.data _) zo50 (cellsAs_data _) rfl
          exact .nil _
        · exact keepOK_of hk hn rfl
        apply WPA.seq
        apply WPA.region
        · apply Trace.pu [] (.funcL (.cons (.plain rfl) (.cons (.plain rfl) (.cons (.plain rfl) (.cons (.plain rfl) .nil)))))
          first | apply Trace.storeD ty50 (.plain rfl) (.plain rfl) rfl rfl rfl (by simp [AV.oneB, single]) (Nat.le_of_ble_eq_true rfl) rfl | apply Trace.storeDA ty50 (.plain rfl) (.plain rfl) rfl rfl rfl (by simp [AV.oneB, single]) (Nat.le_of_ble_eq_true rfl) rfl | apply Trace.storeLoc ty50 (.plain rfl) (.plain rfl) rfl rfl rfl (by simp [AV.oneB, single]) (Nat.le_of_ble_eq_true rfl) rfl | apply Trace.storeRow ty50 (.plain rfl) (.plain rfl) rfl rfl rfl rfl (by decide) (by simp [AV.oneB, single]) rfl (by omega)
          exact .nil _
        · exact keepOK_of hk hn rfl
        apply WPA.seq
        apply WPA.seq
        apply WPA.region
        · first | apply Trace.pu [_] (.loadLoc1D ty22 (.plain rfl) rfl rfl) | apply Trace.pu [_] (.loadLoc1 ty22 (.plain rfl) rfl rfl) | apply Trace.pu [] (.loadRp1 ty22 (.plain rfl) rfl) | apply Trace.pu [_] (.loadCol1 ty22 (.plain rfl) rfl rfl rfl (fun _ => by omega))
          apply Trace.cb [60] [] (callArgs0 (.cons (.plain rfl) .nil)) (spec28 L) en28 .nil rfl rfl
          exact .nil _
        · exact keepOK_of hk hn rfl
        apply WPA.block
        refine WPA.ghost (Ghost.dataCells (l := 14) rfl rfl) ?_
        refine WPA.ghost (Ghost.cellNil (lb := 14) (j := 0) (l := 12) (cols := [.ds []]) (n := 1) rfl rfl rfl rfl (by rw [hk]; decide) rfl (by simp [Col.len]) rfl) ?_
        refine WPA.ghost (Ghost.toAppv (l := 12) (xs := []) rfl rfl) ?_
        refine WPA.weaken (T := [(sl 1, .av (.loc 1 0)), (sl 2, .av (.d (.v (.slice none 0 0)))), (sl 13, .av (.loc 13 0)), (sl 14, .av (.loc 14 0)), (sl 15, .av (.loc 15 0)), (sl 85, .av (.fn 42 [.loc 60 0])), (bk 1, .blk (.data g.ds)), (bk 60, .blk (.data [intsD L])), (bk 14, .blk (.cells [.own 12 0])), (bk 13, .blk (.cells [.own 54 g.lat.length])), (bk 54, .blk (.app 1 g.lat.length [.ints .i64 (List.replicate g.lat.length 0)])), (bk 6, .blk (.cells [.d (nextD B)])), (bk 15, .blk (.cells [.fn 27 colA])), (bk 12, .blk (.appv (List.replicate 0 nilS)))]) ?_ (St.le_cons rfl (St.le_cons rfl (St.le_cons rfl (St.le_cons rfl (St.le_cons rfl (St.le_cons rfl (St.le_cons rfl (St.le_cons rfl (St.le_cons rfl (St.le_cons rfl (St.le_cons rfl (St.le_cons rfl (St.le_cons rfl (St.le_cons rfl (St.le_nil _)))))))))))))))
        refine WPA.ghost (Ghost.famNil (l := 12) (n := 0) (by decide) rfl (fun i => by repeat (first | rfl | refine get_skip ?_ rfl)) (fun i => by repeat (first | exact nm_nil | refine nm_cons rfl ?_)) (by rw [hk]; simp) (T := (bk 12, .blk (.appv (matC (noRows 0)))) :: ([(sl 1, .av (.loc 1 0)), (sl 2, .av (.d (.v (.slice none 0 0)))), (sl 13, .av (.loc 13 0)), (sl 14, .av (.loc 14 0)), (sl 15, .av (.loc 15 0)), (sl 85, .av (.fn 42 [.loc 60 0])), (bk 1, .blk (.data g.ds)), (bk 60, .blk (.data [intsD L])), (bk 14, .blk (.cells [.own 12 0])), (bk 13, .blk (.cells [.own 54 g.lat.length])), (bk 54, .blk (.app 1 g.lat.length [.ints .i64 (List.replicate g.lat.length 0)])), (bk 6, .blk (.cells [.d (nextD B)])), (bk 15, .blk (.cells [.fn 27 colA]))] ++ pad [])) (padNil_T (by repeat (first | exact St.le_refl _ | refine St.le_cons rfl ?_ | exact St.le_nil _)) rfl)) ?_
        refine WPA.weaken (T := [(sl 1, .av (.loc 1 0)), (sl 2, .av (.d (.v (.slice none 0 0)))), (sl 13, .av (.loc 13 0)), (sl 14, .av (.loc 14 0)), (sl 15, .av (.loc 15 0)), (sl 85, .av (.fn 42 [.loc 60 0])), (bk 1, .blk (.data g.ds)), (bk 60, .blk (.data [intsD L])), (bk 14, .blk (.cells [.own 12 0])), (bk 13, .blk (.cells [.own 54 g.lat.length])), (bk 54, .blk (.app 1 g.lat.length [.ints .i64 (List.replicate g.lat.length 0)])), (bk 6, .blk (.cells [.d (nextD B)])), (bk 15, .blk (.cells [.fn 27 colA])), (bk 12, .blk (.appv (matC []))), (bk 400, .blk (.app 1 0 [.ints .i64 []])), (bk 401, .blk (.app 1 0 [.ints .i64 []])), (bk 402, .blk (.app 1 0 [.ints .i64 []])), (bk 403, .blk (.app 1 0 [.ints .i64 []])), (bk 404, .blk (.app 1 0 [.ints .i64 []])), (bk 405, .blk (.app 1 0 [.ints .i64 []])), (bk 406, .blk (.app 1 0 [.ints .i64 []])), (bk 407, .blk (.app 1 0 [.ints .i64 []])), (bk 408, .blk (.app 1 0 [.ints .i64 []])), (bk 409, .blk (.app 1 0 [.ints .i64 []])), (bk 410, .blk (.app 1 0 [.ints .i64 []])), (bk 411, .blk (.app 1 0 [.ints .i64 []]))]) ?_ (St.le_cons (by kernel_rfl) (St.le_cons (by kernel_rfl) (St.le_cons (by kernel_rfl) (St.le_cons (by kernel_rfl) (St.le_cons (by kernel_rfl) (St.le_cons (by kernel_rfl) (St.le_cons (by kernel_rfl) (St.le_cons (by kernel_rfl) (St.le_cons (by kernel_rfl) (St.le_cons (by kernel_rfl) (St.le_cons (by kernel_rfl) (St.le_cons (by kernel_rfl) (St.le_cons (by kernel_rfl) (St.le_cons (by kernel_rfl) (St.le_cons (by kernel_rfl) (St.le_cons (by kernel_rfl) (St.le_cons (by kernel_rfl) (St.le_cons (by kernel_rfl) (St.le_cons (by kernel_rfl) (St.le_cons (by kernel_rfl) (St.le_cons (by kernel_rfl) (St.le_cons (by kernel_rfl) (St.le_cons (by kernel_rfl) (St.le_cons (by kernel_rfl) (St.le_cons (by kernel_rfl) (St.le_cons (by kernel_rfl) (St.le_nil _)))))))))))))))))))))))))))
        have hLb : ∀ v ∈ L, 0 ≤ v ∧ v.toNat < g.lat.length := fun v hv => by
          obtain ⟨u, rfl, hu⟩ := (hLm v).1 hv
          exact ⟨by omega, by omega⟩
        have hcm := fun m hm => colAll_more hrB hLb m hm
        have h12 : ∀ m, m ≤ L.length → (colAll B g.lat.length L m).2.length ≤ 12 := fun m hm => by have := (hcm m hm).2; omega
        refine WPA.rangeFuncH (L := 70) (ts := tsA) (ts' := tsA) (new := newA) (ds := [bk 60, bk 14, bk 12, bk 13, bk 54, bk 6, bk 15, bk 400, bk 401, bk 402, bk 403, bk 404, bk 405, bk 406, bk 407, bk 408, bk 409, bk 410, bk 411]) rfl rfl rfl en42 (.cons rfl (.cons rfl (.cons rfl (.nil)))) hn rfl (by kernel_rfl) (by rw [hk]; decide) (by simp) (itA (n := g.lat.length) (rows := B) (xs := L) (by omega) h12 (fun m hm v hv => ?_)) (handedW_of (res := .d (.v .nilFunc)) (.cons rfl (.cons rfl (.cons rfl (.cons rfl (.cons rfl (.cons rfl (.cons rfl (.cons rfl (.cons rfl (.cons rfl (.cons rfl (.cons rfl (.cons rfl (.cons rfl (.cons rfl (.cons rfl (.cons rfl (.cons rfl (.cons rfl (.cons rfl (.nil))))))))))))))))))))) (.cons rfl (.cons rfl (.cons rfl (.cons (cont_appv (matC_within (h12 _ (Nat.le_refl _)) (by decide))) (.cons rfl (.cons rfl (.cons rfl (.cons rfl (.cons rfl (.cons rfl (.cons rfl (.cons rfl (.cons rfl (.cons rfl (.cons rfl (.cons rfl (.cons rfl (.cons rfl (.cons rfl (.cons rfl (.nil))))))))))))))))))))) (by kernel_rfl)).n rfl (by kernel_rfl) (by kernel_rfl) (by rw [hk]; simp) ?_
        · obtain ⟨hcl, hcf⟩ := hcm m (by omega)
          have hsu := colAll_succ B g.lat.length (l := L) hm
          rw [hv] at hsu
          rw [hsu]
          obtain ⟨u, hu, hun⟩ := (hLm v).1 (by rw [← hv]; exact getD_in 0 (by omega))
          subst hu
          generalize colAll B g.lat.length L m = a at hcl hcf ⊢
          obtain ⟨part, all⟩ := a
          have hcl : part.length = g.lat.length := hcl
          have hcf : all.length + free0 part ≤ g.lat.length := hcf
          refine ySpec_of (pe := none) (S1 := [(sl 17, .av (iv .i64 (u : Nat))), (sl 13, .av (.loc 13 0)), (sl 14, .av (.loc 14 0)), (sl 15, .av (.loc 15 0)), (bk 14, .blk (.cells [.own 12 all.length])), (bk 12, .blk (.appv (matC all))), (bk 13, .blk (.cells [.own 54 g.lat.length])), (bk 54, .blk (.app 1 g.lat.length [.ints .i64 part])), (bk 6, .blk (.cells [.d (nextD B)])), (bk 15, .blk (.cells [.fn 27 colA])), (bk 400, .blk (.app 1 ((all).getD 0 []).length [.ints .i64 ((all).getD 0 [])])), (bk 401, .blk (.app 1 ((all).getD 1 []).length [.ints .i64 ((all).getD 1 [])])), (bk 402, .blk (.app 1 ((all).getD 2 []).length [.ints .i64 ((all).getD 2 [])])), (bk 403, .blk (.app 1 ((all).getD 3 []).length [.ints .i64 ((all).getD 3 [])])), (bk 404, .blk (.app 1 ((all).getD 4 []).length [.ints .i64 ((all).getD 4 [])])), (bk 405, .blk (.app 1 ((all).getD 5 []).length [.ints .i64 ((all).getD 5 [])])), (bk 406, .blk (.app 1 ((all).getD 6 []).length [.ints .i64 ((all).getD 6 [])])), (bk 407, .blk (.app 1 ((all).getD 7 []).length [.ints .i64 ((all).getD 7 [])])), (bk 408, .blk (.app 1 ((all).getD 8 []).length [.ints .i64 ((all).getD 8 [])])), (bk 409, .blk (.app 1 ((all).getD 9 []).length [.ints .i64 ((all).getD 9 [])])), (bk 410, .blk (.app 1 ((all).getD 10 []).length [.ints .i64 ((all).getD 10 [])])), (bk 411, .blk (.app 1 ((all).getD 11 []).length [.ints .i64 ((all).getD 11 [])]))]) rfl rfl rfl rfl rfl rfl rfl rfl ?_ ?_
          · intro E l hk hn
            apply WPA.region
            · apply Trace.pu [] (.assign (.plain rfl))
              exact .nil _
            · exact keepOK_of hk hn rfl
            exact ⟨rfl, St.le_cons (by kernel_rfl) (St.le_cons (by kernel_rfl) (St.le_cons (by kernel_rfl) (St.le_cons (by kernel_rfl) (St.le_cons (by kernel_rfl) (St.le_cons (by kernel_rfl) (St.le_cons (by kernel_rfl) (St.le_cons (by kernel_rfl) (St.le_cons (by kernel_rfl) (St.le_cons (by kernel_rfl) (St.le_cons (by kernel_rfl) (St.le_cons (by kernel_rfl) (St.le_cons (by kernel_rfl) (St.le_cons (by kernel_rfl) (St.le_cons (by kernel_rfl) (St.le_cons (by kernel_rfl) (St.le_cons (by kernel_rfl) (St.le_cons (by kernel_rfl) (St.le_cons (by kernel_rfl) (St.le_cons (by kernel_rfl) (St.le_cons (by kernel_rfl) (St.le_cons (by kernel_rfl) (St.le_nil _))))))))))))))))))))))⟩
          · intro E l hk hn
            apply WPA.block
            apply WPA.seq
            apply WPA.region
            · first | apply Trace.pu [_] (.loadLoc1D ty22 (.plain rfl) rfl rfl) | apply Trace.pu [_] (.loadLoc1 ty22 (.plain rfl) rfl rfl) | apply Trace.pu [] (.loadRp1 ty22 (.plain rfl) rfl) | apply Trace.pu [_] (.loadCol1 ty22 (.plain rfl) rfl rfl rfl (fun _ => by omega))
              apply Trace.pu [] (.move (.plain rfl))
              first | apply Trace.pu [] (.indexRows el22 (.plain rfl) (.plain rfl) (fun _ => ⟨by omega, by omega⟩)) | apply Trace.pu [] (.indexOwn el22 (.plain rfl) (.plain rfl) (fun _ => ⟨by omega, by omega⟩)) | apply Trace.pu [] (.indexSl el22 (.plain rfl) (.plain rfl) (fun _ => ⟨by omega, by omega⟩))
              first | apply Trace.pu [_] (.loadLoc1D ty3 (.plain rfl) rfl rfl) | apply Trace.pu [_] (.loadLoc1 ty3 (.plain rfl) rfl rfl) | apply Trace.pu [] (.loadRp1 ty3 (.plain rfl) rfl) | apply Trace.pu [_] (.loadCol1 ty3 (.plain rfl) rfl rfl rfl (fun _ => by omega))
              apply Trace.pu [] (.cmp (.plain rfl) (.plain rfl) rfl)
              exact .nil _
            · exact keepOK_of hk hn rfl
            refine WPA.cond rfl (fun hc5 => ?_) (fun hc5 => ?_)
            · have hst : part.getD u 0 = 0 := by simpa using hc5
              have hfp := free0_set part u (c := 1) (by decide) (by omega) hst
              have hal : all.length < 12 := by omega
              have hrec := spec27 (rows := B) (n := g.lat.length) (all := all) hBl hrB hqB (by omega) hal (c := ((all.length + 1 : Nat) : Int)) rfl g.lat.length (part, []) u hcl hun (by show free0 part ≤ _; omega) hst (by show 0 + free0 part ≤ _; omega)
              have hstp : colStep B g.lat.length (part, all) (u : Nat) = ((colP B ((all.length + 1 : Nat) : Int) g.lat.length (part, []) u).1, all ++ [(colP B ((all.length + 1 : Nat) : Int) g.lat.length (part, []) u).2]) := if_pos hst
              rw [hstp]
              obtain ⟨d, hd⟩ : ∃ d, colP B ((all.length + 1 : Nat) : Int) g.lat.length (part, []) u = d := ⟨_, rfl⟩
              rw [hd] at hrec ⊢
              apply WPA.seq
              apply WPA.region
              · first | apply Trace.pu [_] (.loadLoc1D ty28 (.plain rfl) rfl rfl) | apply Trace.pu [_] (.loadLoc1 ty28 (.plain rfl) rfl rfl) | apply Trace.pu [] (.loadRp1 ty28 (.plain rfl) rfl) | apply Trace.pu [_] (.loadCol1 ty28 (.plain rfl) rfl rfl rfl (fun _ => by omega))
                apply Trace.buildSlice 94 [] so28 zo22 rfl (by decide) (by decide) (.cons (.plain rfl) rfl rfl (Nat.le_of_ble_eq_true rfl) (.nil _ _)) rfl rfl (freshB_of (fun l hl => by
                    simp only [List.mem_singleton] at hl; subst hl
                    repeat (first | exact nm_nil | refine nm_appv (matC_ment (by decide)) ?_ | refine nm_appv (matN_ment (by decide)) ?_ | refine nm_cons rfl ?_)))
                apply Trace.appendV (us := [nilS]) (len2 := 1) 19 [bk 12, bk 94, sl 93, sl 94] ap28 kd28 (.plain rfl) rfl (matC_length _) (.own (.plain rfl) rfl) (Col.ones rfl) (.inr (by decide)) rfl (fun i hi => match i, hi with | 0, _ => ⟨_, rfl, rfl⟩) (by decide) (matC_ment (by decide)) (by omega) (by omega) (freshB_of (fun l hl => by
                    simp only [List.mem_singleton] at hl; subst hl
                    repeat (first | exact nm_nil | refine nm_appv (matC_ment (by decide)) ?_ | refine nm_appv (matN_ment (by decide)) ?_ | refine nm_cons rfl ?_)))
                first | apply Trace.storeD ty28 (.plain rfl) (.plain rfl) rfl rfl rfl (by simp [AV.oneB, single]) (Nat.le_of_ble_eq_true rfl) rfl | apply Trace.storeDA ty28 (.plain rfl) (.plain rfl) rfl rfl rfl (by simp [AV.oneB, single]) (Nat.le_of_ble_eq_true rfl) rfl | apply Trace.storeLoc ty28 (.plain rfl) (.plain rfl) rfl rfl rfl (by simp [AV.oneB, single]) (Nat.le_of_ble_eq_true rfl) rfl | apply Trace.storeRow ty28 (.plain rfl) (.plain rfl) rfl rfl rfl rfl (by decide) (by simp [AV.oneB, single]) rfl (by omega)
                exact .nil _
              · repeat (first | exact keepOK_nil | refine keepOK_cons (by first | exact axOK_of hk hn rfl | exact axOK_blk) ?_)
              refine WPA.ghost (Ghost.swap 12 19 (by rw [hk]; decide) (by rw [hk]; decide) rfl) ?_
              refine WPA.weaken (T := [(sl 17, .av (iv .i64 (u : Nat))), (sl 15, .av (.loc 15 0)), (bk 14, .blk (.cells [.own 12 (all.length + 1)])), (bk 13, .blk (.cells [.own 54 g.lat.length])), (bk 54, .blk (.app 1 g.lat.length [.ints .i64 part])), (bk 6, .blk (.cells [.d (nextD B)])), (bk 15, .blk (.cells [.fn 27 colA])), (bk 12, .blk (.appv (matC all ++ [nilS]))), (bk 400, .blk (.app 1 ((all).getD 0 []).length [.ints .i64 ((all).getD 0 [])])), (bk 401, .blk (.app 1 ((all).getD 1 []).length [.ints .i64 ((all).getD 1 [])])), (bk 402, .blk (.app 1 ((all).getD 2 []).length [.ints .i64 ((all).getD 2 [])])), (bk 403, .blk (.app 1 ((all).getD 3 []).length [.ints .i64 ((all).getD 3 [])])), (bk 404, .blk (.app 1 ((all).getD 4 []).length [.ints .i64 ((all).getD 4 [])])), (bk 405, .blk (.app 1 ((all).getD 5 []).length [.ints .i64 ((all).getD 5 [])])), (bk 406, .blk (.app 1 ((all).getD 6 []).length [.ints .i64 ((all).getD 6 [])])), (bk 407, .blk (.app 1 ((all).getD 7 []).length [.ints .i64 ((all).getD 7 [])])), (bk 408, .blk (.app 1 ((all).getD 8 []).length [.ints .i64 ((all).getD 8 [])])), (bk 409, .blk (.app 1 ((all).getD 9 []).length [.ints .i64 ((all).getD 9 [])])), (bk 410, .blk (.app 1 ((all).getD 10 []).length [.ints .i64 ((all).getD 10 [])])), (bk 411, .blk (.app 1 ((all).getD 11 []).length [.ints .i64 ((all).getD 11 [])]))]) ?_ (St.le_cons (by kernel_rfl) (St.le_cons (by kernel_rfl) (St.le_cons (by kernel_rfl) (St.le_cons (by kernel_rfl) (St.le_cons (by kernel_rfl) (St.le_cons (by kernel_rfl) (St.le_cons (by kernel_rfl) (St.le_cons (appv_eq (swps_small (by decide) (by decide) matN_own)) (St.le_cons (by kernel_rfl) (St.le_cons (by kernel_rfl) (St.le_cons (by kernel_rfl) (St.le_cons (by kernel_rfl) (St.le_cons (by kernel_rfl) (St.le_cons (by kernel_rfl) (St.le_cons (by kernel_rfl) (St.le_cons (by kernel_rfl) (St.le_cons (by kernel_rfl) (St.le_cons (by kernel_rfl) (St.le_cons (by kernel_rfl) (St.le_cons (by kernel_rfl) (St.le_nil _)))))))))))))))))))))
              refine WPA.ghost (Ghost.cellNilV (lb := 12) (j := all.length) (l := 95) (cols := [.ints .i64 []]) (n := 1) rfl (matN_get all) (freshB_of (fun l hl => by
                  simp only [List.mem_singleton] at hl; subst hl
                  repeat (first | exact nm_nil | refine nm_appv (matC_ment (by decide)) ?_ | refine nm_appv (matN_ment (by decide)) ?_ | refine nm_cons rfl ?_))) rfl (by rw [hk]; decide) rfl (by simp [Col.len]) rfl) ?_
              refine WPA.weaken (T := [(sl 17, .av (iv .i64 (u : Nat))), (sl 15, .av (.loc 15 0)), (bk 14, .blk (.cells [.own 12 (all.length + 1)])), (bk 13, .blk (.cells [.own 54 g.lat.length])), (bk 54, .blk (.app 1 g.lat.length [.ints .i64 part])), (bk 6, .blk (.cells [.d (nextD B)])), (bk 15, .blk (.cells [.fn 27 colA])), (bk 12, .blk (.appv (pushC all 95 0))), (bk 95, .blk (.app 1 0 [.ints .i64 []])), (bk 400, .blk (.app 1 ((all).getD 0 []).length [.ints .i64 ((all).getD 0 [])])), (bk 401, .blk (.app 1 ((all).getD 1 []).length [.ints .i64 ((all).getD 1 [])])), (bk 402, .blk (.app 1 ((all).getD 2 []).length [.ints .i64 ((all).getD 2 [])])), (bk 403, .blk (.app 1 ((all).getD 3 []).length [.ints .i64 ((all).getD 3 [])])), (bk 404, .blk (.app 1 ((all).getD 4 []).length [.ints .i64 ((all).getD 4 [])])), (bk 405, .blk (.app 1 ((all).getD 5 []).length [.ints .i64 ((all).getD 5 [])])), (bk 406, .blk (.app 1 ((all).getD 6 []).length [.ints .i64 ((all).getD 6 [])])), (bk 407, .blk (.app 1 ((all).getD 7 []).length [.ints .i64 ((all).getD 7 [])])), (bk 408, .blk (.app 1 ((all).getD 8 []).length [.ints .i64 ((all).getD 8 [])])), (bk 409, .blk (.app 1 ((all).getD 9 []).length [.ints .i64 ((all).getD 9 [])])), (bk 410, .blk (.app 1 ((all).getD 10 []).length [.ints .i64 ((all).getD 10 [])])), (bk 411, .blk (.app 1 ((all).getD 11 []).length [.ints .i64 ((all).getD 11 [])]))]) ?_ (St.le_cons rfl (St.le_cons rfl (St.le_cons rfl (St.le_cons rfl (St.le_cons rfl (St.le_cons rfl (St.le_cons rfl (St.le_cons (appv_eq (matN_set all 95)) (St.le_cons rfl (St.le_cons rfl (St.le_cons rfl (St.le_cons rfl (St.le_cons rfl (St.le_cons rfl (St.le_cons rfl (St.le_cons rfl (St.le_cons rfl (St.le_cons rfl (St.le_cons rfl (St.le_cons rfl (St.le_cons rfl (St.le_nil _))))))))))))))))))))))
              refine WPA.endG ?_
              apply WPA.region
              · first | apply Trace.pu [_] (.loadLoc1D ty50 (.plain rfl) rfl rfl) | apply Trace.pu [_] (.loadLoc1 ty50 (.plain rfl) rfl rfl) | apply Trace.pu [] (.loadRp1 ty50 (.plain rfl) rfl) | apply Trace.pu [_] (.loadCol1 ty50 (.plain rfl) rfl rfl rfl (fun _ => by omega))
                apply Trace.pu [] (.move (.plain rfl))
                apply Trace.cbW [95] [bk 14, bk 12, bk 95, bk 13, bk 54, bk 6, bk 15] (callArgs (.plain rfl) (.cons (.plain rfl) .nil)) hrec en27 (.cons rfl (.cons rfl (.cons rfl (.cons rfl (.cons rfl (.cons rfl (.cons rfl (.nil)))))))) (.cons rfl (.cons (cont_appv (pushC_within (by omega) (by decide) rfl)) (.cons rfl (.cons rfl (.cons rfl (.cons rfl (.cons rfl (.nil)))))))) (by kernel_rfl) (by kernel_rfl)
                exact .nil _
              · exact keepOK_of hk hn (by kernel_rfl)
              first
                | exact ⟨rfl, blks_of (.cons rfl (.cons rfl (.cons rfl (.cons rfl (.cons rfl (.cons rfl (.cons rfl (.cons rfl (.cons rfl (.cons rfl (.cons rfl (.cons rfl (.cons rfl (.cons rfl (.cons rfl (.cons rfl (.cons rfl (.cons rfl (.nil)))))))))))))))))))⟩
                | (refine ⟨_, (Ghost.weaken (T := (bk 14, .blk (.cells [.own 12 (all.length + 1)])) :: (bk 13, .blk (.cells [.own 54 g.lat.length])) :: (bk 54, .blk (.app 1 g.lat.length [.ints .i64 d.1])) :: (bk 6, .blk (.cells [.d (nextD B)])) :: (bk 15, .blk (.cells [.fn 27 colA])) :: (bk 12, .blk (.appv (pushC all 95 d.2.length))) :: (bk 95, .blk (.app 1 d.2.length [.ints .i64 d.2])) :: padBut all all.length) (St.le_cons (by kernel_rfl) (St.le_cons (by kernel_rfl) (St.le_cons (by kernel_rfl) (St.le_cons (by kernel_rfl) (St.le_cons (by kernel_rfl) (St.le_cons (by kernel_rfl) (St.le_cons (by kernel_rfl) (fun m c e => (show St.le (pad all) _ from (St.le_cons (by kernel_rfl) (St.le_cons (by kernel_rfl) (St.le_cons (by kernel_rfl) (St.le_cons (by kernel_rfl) (St.le_cons (by kernel_rfl) (St.le_cons (by kernel_rfl) (St.le_cons (by kernel_rfl) (St.le_cons (by kernel_rfl) (St.le_cons (by kernel_rfl) (St.le_cons (by kernel_rfl) (St.le_cons (by kernel_rfl) (St.le_cons (by kernel_rfl) (St.le_nil _)))))))))))))) m c (padBut_le m c e)))))))))).trans (Ghost.alias' (L := 12) (i := all.length) (a := 95) (b := inn all.length) (S' := (bk 14, .blk (.cells [.own 12 (all.length + 1)])) :: (bk 13, .blk (.cells [.own 54 g.lat.length])) :: (bk 54, .blk (.app 1 g.lat.length [.ints .i64 d.1])) :: (bk 6, .blk (.cells [.d (nextD B)])) :: (bk 15, .blk (.cells [.fn 27 colA])) :: padBut all all.length) rfl (pushC_get all 95 _) rfl (by decide) (by repeat (first | exact padBut_self | refine get_skip ?_ rfl)) (by repeat (first | exact nm_padBut | refine nm_appv (pushC_out (by decide)) ?_ | refine nm_cons rfl ?_)) (by rw [hk]; simp [inn]) (St.le_cons rfl (St.le_cons rfl (St.le_cons rfl (St.le_cons rfl (St.le_cons rfl ((by repeat (first | exact St.le_refl _ | exact padBut_le | refine padBut_skip ?_ rfl)))))))) (padBut_small (by decide))), rfl, ?_⟩
                   intro m B0 e0
                   refine (show St.le (CsA g.lat.length B (d.1, all ++ [d.2])) _ from ?_) _ _ e0
                   exact (St.le_cons (by show some (Cont.blk (.cells [.own 12 (all.length + 1)])) = some (Cont.blk (.cells [.own 12 (all ++ [d.2]).length])); simp) (St.le_cons (appv_eq (by rw [pushC_set, ← matC_push])) (St.le_cons rfl (St.le_cons rfl (St.le_cons rfl (St.le_cons rfl (pad_back (by repeat (first | exact St.le_refl _ | exact padBut_le | refine padBut_skip ?_ rfl)) rfl hal))))))))
            · have hst : ¬ part.getD u 0 = 0 := by simpa using hc5
              have hstp : colStep B g.lat.length (part, all) (u : Nat) = (part, all) := if_neg hst
              rw [hstp]
              apply WPA.skip
              first
                | exact ⟨rfl, blks_of (.cons rfl (.cons rfl (.cons rfl (.cons rfl (.cons rfl (.cons rfl (.cons rfl (.cons rfl (.cons rfl (.cons rfl (.cons rfl (.cons rfl (.cons rfl (.cons rfl (.cons rfl (.cons rfl (.cons rfl (.cons rfl (.nil)))))))))))))))))))⟩
                | (refine ⟨_, (Ghost.weaken (T := (bk 14, .blk (.cells [.own 12 (all.length + 1)])) :: (bk 13, .blk (.cells [.own 54 g.lat.length])) :: (bk 54, .blk (.app 1 g.lat.length [.ints .i64 d.1])) :: (bk 6, .blk (.cells [.d (nextD B)])) :: (bk 15, .blk (.cells [.fn 27 colA])) :: (bk 12, .blk (.appv (pushC all 95 d.2.length))) :: (bk 95, .blk (.app 1 d.2.length [.ints .i64 d.2])) :: padBut all all.length) (St.le_cons (by kernel_rfl) (St.le_cons (by kernel_rfl) (St.le_cons (by kernel_rfl) (St.le_cons (by kernel_rfl) (St.le_cons (by kernel_rfl) (St.le_cons (by kernel_rfl) (St.le_cons (by kernel_rfl) (fun m c e => (show St.le (pad all) _ from (St.le_cons (by kernel_rfl) (St.le_cons (by kernel_rfl) (St.le_cons (by kernel_rfl) (St.le_cons (by kernel_rfl) (St.le_cons (by kernel_rfl) (St.le_cons (by kernel_rfl) (St.le_cons (by kernel_rfl) (St.le_cons (by kernel_rfl) (St.le_cons (by kernel_rfl) (St.le_cons (by kernel_rfl) (St.le_cons (by kernel_rfl) (St.le_cons (by kernel_rfl) (St.le_nil _)))))))))))))) m c (padBut_le m c e)))))))))).trans (Ghost.alias' (L := 12) (i := all.length) (a := 95) (b := inn all.length) (S' := (bk 14, .blk (.cells [.own 12 (all.length + 1)])) :: (bk 13, .blk (.cells [.own 54 g.lat.length])) :: (bk 54, .blk (.app 1 g.lat.length [.ints .i64 d.1])) :: (bk 6, .blk (.cells [.d (nextD B)])) :: (bk 15, .blk (.cells [.fn 27 colA])) :: padBut all all.length) rfl (pushC_get all 95 _) rfl (by decide) (by repeat (first | exact padBut_self | refine get_skip ?_ rfl)) (by repeat (first | exact nm_padBut | refine nm_appv (pushC_out (by decide)) ?_ | refine nm_cons rfl ?_)) (by rw [hk]; simp [inn]) (St.le_cons rfl (St.le_cons rfl (St.le_cons rfl (St.le_cons rfl (St.le_cons rfl ((by repeat (first | exact St.le_refl _ | exact padBut_le | refine padBut_skip ?_ rfl)))))))) (padBut_small (by decide))), rfl, ?_⟩
                   intro m B0 e0
                   refine (show St.le (CsA g.lat.length B (d.1, all ++ [d.2])) _ from ?_) _ _ e0
                   exact (St.le_cons (by show some (Cont.blk (.cells [.own 12 (all.length + 1)])) = some (Cont.blk (.cells [.own 12 (all ++ [d.2]).length])); simp) (St.le_cons (appv_eq (by rw [pushC_set, ← matC_push])) (St.le_cons rfl (St.le_cons rfl (St.le_cons rfl (St.le_cons rfl (pad_back (by repeat (first | exact St.le_refl _ | exact padBut_le | refine padBut_skip ?_ rfl)) rfl hal))))))))
        · have hpa : colAll B g.lat.length L L.length = g.partsA := by unfold Gr.partsA; rw [hA, hB, hL, hLl]
          obtain ⟨hscc, hpal⟩ := partsA_scc hok
          have hout2 : g.arrP g.partsA.1 g.partsA.2 = some out := hout hC
          rw [hpa]
          generalize g.partsA = a at hscc hpal hout2 ⊢
          obtain ⟨part, all⟩ := a
          have hpal : all.length ≤ g.lat.length := hpal
          obtain ⟨hs1, hs2, hs3, hs4⟩ := hscc
          refine WPA.weaken (T := [(sl 1, .av (.loc 1 0)), (sl 2, .av (.d (.v (.slice none 0 0)))), (sl 13, .av (.loc 13 0)), (sl 14, .av (.loc 14 0)), (bk 1, .blk (.data g.ds)), (bk 14, .blk (.cells [.own 12 all.length])), (bk 12, .blk (.appv (matC all))), (bk 13, .blk (.cells [.own 54 g.lat.length])), (bk 54, .blk (.app 1 g.lat.length [.ints .i64 part])), (bk 400, .blk (.app 1 ((all).getD 0 []).length [.ints .i64 ((all).getD 0 [])])), (bk 401, .blk (.app 1 ((all).getD 1 []).length [.ints .i64 ((all).getD 1 [])])), (bk 402, .blk (.app 1 ((all).getD 2 []).length [.ints .i64 ((all).getD 2 [])])), (bk 403, .blk (.app 1 ((all).getD 3 []).length [.ints .i64 ((all).getD 3 [])])), (bk 404, .blk (.app 1 ((all).getD 4 []).length [.ints .i64 ((all).getD 4 [])])), (bk 405, .blk (.app 1 ((all).getD 5 []).length [.ints .i64 ((all).getD 5 [])])), (bk 406, .blk (.app 1 ((all).getD 6 []).length [.ints .i64 ((all).getD 6 [])])), (bk 407, .blk (.app 1 ((all).getD 7 []).length [.ints .i64 ((all).getD 7 [])])), (bk 408, .blk (.app 1 ((all).getD 8 []).length [.ints .i64 ((all).getD 8 [])])), (bk 409, .blk (.app 1 ((all).getD 9 []).length [.ints .i64 ((all).getD 9 [])])), (bk 410, .blk (.app 1 ((all).getD 10 []).length [.ints .i64 ((all).getD 10 [])])), (bk 411, .blk (.app 1 ((all).getD 11 []).length [.ints .i64 ((all).getD 11 [])]))]) ?_ (St.le_cons (by kernel_rfl) (St.le_cons (by kernel_rfl) (St.le_cons (by kernel_rfl) (St.le_cons (by kernel_rfl) (St.le_cons (by kernel_rfl) (St.le_cons (by kernel_rfl) (St.le_cons (by kernel_rfl) (St.le_cons (by kernel_rfl) (St.le_cons (by kernel_rfl) (St.le_cons (by kernel_rfl) (St.le_cons (by kernel_rfl) (St.le_cons (by kernel_rfl) (St.le_cons (by kernel_rfl) (St.le_cons (by kernel_rfl) (St.le_cons (by kernel_rfl) (St.le_cons (by kernel_rfl) (St.le_cons (by kernel_rfl) (St.le_cons (by kernel_rfl) (St.le_cons (by kernel_rfl) (St.le_cons (by kernel_rfl) (St.le_cons (by kernel_rfl) (St.le_nil _))))))))))))))))))))))
          apply WPA.seq
          apply WPA.region
          · first | apply Trace.pu [_] (.loadAllD ty25 (.plain rfl) rfl (by simp)) | apply Trace.pu [_] (.loadLocD ty25 (.plain rfl) rfl (fun _ => by simp)) | apply Trace.pu [_] (.loadLoc ty25 (.plain rfl) rfl (fun _ => Nat.le_of_ble_eq_true rfl)) | apply Trace.pu [] (.loadRp ty25 (.plain rfl) (fun _ => by decide)) | apply Trace.pu [] (.loadRp ty25 (.plain rfl) (fun _ => Nat.le_of_ble_eq_true rfl)) | apply Trace.pu [_] (.loadCol ty25 (.plain rfl) rfl rfl (fun _ => by decide) (fun _ => by omega)) | apply Trace.pu [_] (.loadArr ty25 (.plain rfl) rfl)
            first | apply Trace.pu [_] (.loadLoc1D ty22 (.plain rfl) rfl rfl) | apply Trace.pu [_] (.loadLoc1 ty22 (.plain rfl) rfl rfl) | apply Trace.pu [] (.loadRp1 ty22 (.plain rfl) rfl) | apply Trace.pu [_] (.loadCol1 ty22 (.plain rfl) rfl rfl rfl (fun _ => by omega))
            first | apply Trace.pu [_] (.loadLoc1D ty28 (.plain rfl) rfl rfl) | apply Trace.pu [_] (.loadLoc1 ty28 (.plain rfl) rfl rfl) | apply Trace.pu [] (.loadRp1 ty28 (.plain rfl) rfl) | apply Trace.pu [_] (.loadCol1 ty28 (.plain rfl) rfl rfl rfl (fun _ => by omega))
            apply Trace.cbW [] [bk 54, bk 12, bk 400, bk 401, bk 402, bk 403, bk 404, bk 405, bk 406, bk 407, bk 408, bk 409, bk 410, bk 411] (callArgs0 (.cons (.plain rfl) (.cons (.plain rfl) (.cons (.plain rfl) .nil)))) (spec29 hok hn12 hs1 (by omega) (scc_rows hs3 hn12) (fun v hv => by have := hs2 v hv; omega) hout2) en29 (.cons rfl (.cons rfl (.cons rfl (.cons rfl (.cons rfl (.cons rfl (.cons rfl (.cons rfl (.cons rfl (.cons rfl (.cons rfl (.cons rfl (.cons rfl (.cons rfl (.nil))))))))))))))) .nil (by kernel_rfl) (by kernel_rfl)
            apply Trace.pu [] (.assign (.plain rfl))
            apply Trace.pu [] (.assign (.plain rfl))
            exact .nil _
          · exact keepOK_of hk hn (by kernel_rfl)
          apply WPA.ret
          refine ⟨.inr rfl, ⟨_, (.cons (.tmp rfl) (.cons (.tmp rfl) .nil)), ?_⟩, by simp [St.get]⟩
          rw [if_pos hC, hC]; rfl

end Go.Proofs.Ytglokdfdogmmhaa


/- The chapter's examples of order. -/
namespace Go.Proofs.Ytglokdfdogmmhaa
open Go
set_option linter.unusedVariables false
set_option linter.unusedSimpArgs false
set_option maxRecDepth 100000
set_option maxHeartbeats 1000000

theorem sz_of {g : Gr} (h : (decide (g.lat.length ≤ 4611686018427387904 ∧ g.es.length ≤ 4611686018427387904) && (g.lat.all fun x => decide (-9223372036854775808 ≤ x ∧ x ≤ 9223372036854775807)) &&
    g.es.all fun e => decide ((-9223372036854775808 ≤ e.f ∧ e.f ≤ 9223372036854775807) ∧ (-9223372036854775808 ≤ e.t ∧ e.t ≤ 9223372036854775807) ∧ (-9223372036854775808 ≤ e.w ∧ e.w ≤ 9223372036854775807) ∧ -9223372036854775808 ≤ e.d ∧ e.d ≤ 9223372036854775807)) = true) : g.Sz := by
  simp only [Bool.and_eq_true, decide_eq_true_eq, List.all_eq_true] at h
  exact ⟨h.1.1.1, h.1.1.2, h.1.2, h.2⟩
theorem WPA.region2G {P : Program} {ro : Ro} {ops : Array Oper} {E : Env} {id : Nat} {S S1 S' : St} {L1 L2 : List Ax} {Q : Exit → St → Prop} (k : Nat) {T : St} (h1 : Trace P ro ops (ops.toList.take k) S L1 S1) (hk1 : KeepOK E L1) (hg : ∀ E : Env, Ghost E S1 T) (h2 : Trace P ro ops (ops.toList.drop k) T L2 S') (hk2 : KeepOK E L2) (hkl : k ≤ ops.toList.length) (hq : Q .normal S') :
    WPA P ro E (.region id ops false) S Q := by
  intro a w hr
  obtain ⟨E2, e1, e2, hr2, back⟩ := hr.from
  refine wpIn_region ?_
  have hpn : ∀ x, ro.pan = some x → ∀ a w, Rep E2 x.2 a w → WPost ro E Q (.panic x.1) a w := fun x hp a w hr => .inr ⟨x, hp, rfl, back _ _ _ hr⟩
  have hq' : ∀ a w, Rep E2 S' a w → WPost ro E Q .normal a w := fun a w hr => .inl ⟨S', hq, back _ _ _ hr⟩
  have hl1 : (ops.toList.take k).length = k := by rw [List.length_take]; omega
  have hl2 : (ops.toList.drop k).length = ops.toList.length - k := List.length_drop
  have := wpOpsIn_then (Q := WPost ro E Q) h1 (List.range' k (ops.toList.length - k)) (hk1.env e1 e2) hpn (fun a w hr => by
    have := wpOpsIn_of_trace (Q := WPost ro E Q) h2 (hk2.env e1 e2) hpn hq' k (fun j => by rw [List.getElem?_drop]; simp) a w (hg E2 a w hr)
    rwa [hl2] at this) 0 (fun j hj => by rw [List.getElem?_take_of_lt (by omega)]; simp) a w hr2
  rw [hl1] at this
  have e : List.range ops.size = List.range' 0 k ++ List.range' k (ops.toList.length - k) := by
    rw [List.range_eq_range', ← Array.length_toList]
    have := List.range'_append (s := 0) (m := k) (n := ops.toList.length - k) (step := 1)
    simp only [Nat.one_mul, Nat.zero_add] at this
    rw [this]; congr 1; omega
  rw [e]
  exact this

abbrev PL := List (Int × Int)
abbrev pairsD (l : PL) : D := .rows 2 l.length fun i => [.v (.int .i64 (l.getD i (0, 0)).1), .v (.int .i64 (l.getD i (0, 0)).2)]
def eds (l : PL) : List Edg := l.map fun p => ⟨p.1, p.2, 1, 1⟩
def edg (n : Nat) (l : PL) : Gr := ⟨List.replicate n 0, eds l⟩
abbrev latD (n : Nat) : D := .rows 1 n fun i => [Col.at (.ints .i64 (List.replicate n 0)) i]
abbrev eCols (l : PL) : List Col := [.ints .i64 (l.map (·.1)), .ints .i64 (l.map (·.2)), .ints .i64 (l.map fun _ => 1), .ints .i64 (l.map fun _ => 1)]
theorem eCols_at {l : PL} {i : Nat} (h : i < l.length) : (eCols l).map (Col.at · i) = ((eds l).getD i default).ds := by
  have e : (eds l).getD i default = ⟨(l.getD i (0, 0)).1, (l.getD i (0, 0)).2, 1, 1⟩ := by
    unfold eds
    simp [List.getD_eq_getElem?_getD, h]
  rw [e]
  simp only [eCols, List.map_cons, List.map_nil, Col.at]
  rw [getD_map' _ _ (0, 0) _ h, getD_map' _ _ (0, 0) _ h, getD_map' _ _ (0, 0) _ h]
theorem eCols_push {l : PL} {i : Nat} (h : i < l.length) : eCols (l.take (i + 1)) = [.ints .i64 ((l.take i).map (·.1) ++ [(l.getD i (0, 0)).1]), .ints .i64 ((l.take i).map (·.2) ++ [(l.getD i (0, 0)).2]), .ints .i64 ((l.take i).map (fun _ => (1 : Int)) ++ [1]), .ints .i64 ((l.take i).map (fun _ => (1 : Int)) ++ [1])] := by
  rw [List.take_add_one, List.getElem?_eq_getElem h, getD_lt _ _ h]
  simp only [eCols, List.map_append, List.map_cons, List.map_nil, Option.toList]
theorem latD_eq (n : Nat) : intsD (List.replicate n 0) = latD n := by
  show D.rows 1 (List.replicate n (0 : Int)).length _ = _
  rw [List.length_replicate]; rfl
theorem paN {g : Gr} (hz : g.Sz) (hn : g.lat.length ≤ 12) {l : RL} {c : Int} (h : (if g.check = 0 then g.partsR else [], g.check) = (l, c)) : FnSpec Try.prog 11 [g.av] [] (.tup ([nextD l, .v (.int .i64 c)].map .d)) [] [] := by
  injection h with h1 h2
  have := spec11 hz hn (out := g.partsR) fun hC => parts_eq (check_ok2 hC)
  rw [h1, h2] at this
  exact this
theorem seN {g : Gr} (hz : g.Sz) {dl : List Int} (hd : dl.length ≤ 4611686018427387904) {l : List Int} {c : Int} (h : g.seqE dl = (l, c)) : FnSpec Try.prog 13 [g.av, .d (intsD dl)] [] (.tup ([intsD l, .v (.int .i64 c)].map .d)) [] [] := by
  have := spec13 g hz dl hd
  rw [h] at this
  exact this
theorem smT {a : List Int} (ha : a.length ≤ 4611686018427387904) : FnSpec Try.prog 16 [.d (intsD a), .d (intsD a)] [] (bv true) [] [] := by
  have := spec16 a a ha ha
  rwa [decide_eq_true rfl] at this
theorem saT {a : RL} (ha : a.length ≤ 4611686018427387904) (hr : ∀ i, (a.getD i []).length ≤ 4611686018427387904) : FnSpec Try.prog 15 [.d (nextD a), .d (nextD a)] [] (bv true) [] [] := by
  have := spec15 a a ha ha hr hr
  rwa [decide_eq_true rfl] at this
/-- soundpost/soundpostlaw22.edges -/
theorem spec24 (n : Nat) (hn4 : n ≤ 4096) (l : PL) (hl : l.length ≤ 4096) : FnSpec Try.prog 24 [iv .i64 (n : Nat), .d (pairsD l)] [] ((edg n l).av) [] [] := by
  refine fnSpec_of (rs := [.cell 4 25]) Try.func24 rfl rfl (Nat.le_of_ble_eq_true rfl) (by simp [St.get]) fun E hk hn => ?_
  apply WPA.seq
  apply WPA.region
  · apply Trace.alloc 4 [] (.data _) zo25 (cellsAs_data _) rfl
    exact .nil _
  · exact keepOK_of hk hn rfl
  apply WPA.seq
  rcases Decidable.em True with htt | htt
  · apply WPA.region2G 2 (T := [(sl 0, .av (iv .i64 (n : Nat))), (sl 1, .av (.d (pairsD l))), (sl 4, .av (.loc 4 0)), (sl 9, .av (.d (latD n))), (bk 4, .blk (.data [.v (.slice none 0 0), .v (.slice none 0 0)]))])
    · apply Trace.pu [] (.move (.plain rfl))
      apply Trace.makeSlice 9 [] so22 by3 zo3 rfl (by decide) (.plain rfl) (.plain rfl) ⟨by omega, by omega⟩ (by omega) (by omega) rfl rfl
      exact .nil _
    · exact keepOK_of hk hn rfl
    · exact fun E => (Ghost.freezeAs (t := 9) (l := 9) (g := fun i => [Col.at (.ints .i64 (List.replicate n 0)) i]) rfl rfl (fun i hi => rfl)).trans (Ghost.weaken (St.le_cons rfl (St.le_cons rfl (St.le_cons rfl (St.le_cons rfl (St.le_cons rfl (St.le_nil _)))))))
    · apply Trace.pu [] (.build zo25 pl25 (.cons (.plain rfl) rfl rfl (Nat.le_of_ble_eq_true rfl) (.nil _ _)) rfl)
      apply Trace.alloc 5 [] (.data _) zo25 (cellsAs_data _) rfl
      first | apply Trace.storeD ty25 (.plain rfl) (.plain rfl) rfl rfl (by simp) (by simp [AV.oneB, single, intsD, rowsD]) (by simp) (spliceL_all (by simp)) | apply Trace.storeD ty25 (.plain rfl) (.plain rfl) rfl rfl (by simp) (by simp [AV.oneB, single, intsD, rowsD]) (by simp) rfl | apply Trace.storeDA ty25 (.plain rfl) (.plain rfl) rfl rfl (by simp) (by simp [AV.oneB, single]) (by simp) rfl | apply Trace.storeLoc ty25 (.plain rfl) (.plain rfl) rfl rfl (by simp) (by simp [AV.oneB, single]) (by simp) rfl | apply Trace.storeRow ty25 (.plain rfl) (.plain rfl) rfl rfl rfl rfl (by decide) (by simp [AV.oneB, single]) rfl (by omega)
      exact .nil _
    · exact keepOK_of hk hn rfl
    · exact Nat.le_of_ble_eq_true rfl
    apply WPA.seq
    apply WPA.seq
    refine WPA.ghost (Ghost.dataCells (l := 5) rfl rfl) ?_
    refine WPA.ghost (Ghost.cellNil (lb := 5) (j := 1) (l := 90) (cols := eCols []) (n := 4) rfl rfl rfl rfl (by rw [hk]; decide) rfl (by simp [Col.len]) rfl) ?_
    apply WPA.region
    · apply Trace.pu [] (.move (.plain rfl))
      apply Trace.pu [] (.len rfl Try.underlying64 (.plain rfl) rfl)
      apply Trace.pu [] (.move (.plain rfl))
      exact .nil _
    · exact keepOK_of hk hn rfl
    apply WPA.block
    refine WPA.loop (σ := Nat) (fun i => [(sl 1, .av (.d (pairsD l))), (sl 4, .av (.loc 4 0)), (sl 5, .av (.loc 5 0)), (sl 11, .av (.d (pairsD l))), (sl 12, .av (iv .i64 (l.length))), (sl 13, .av (iv .i64 (i))), (bk 4, .blk (.data [.v (.slice none 0 0), .v (.slice none 0 0)])), (bk 5, .blk (.cells [.d (latD n), .own 90 i])), (bk 90, .blk (.app 4 i (eCols (l.take i))))]) (fun i => i ≤ l.length) (fun i => l.length - i) 0
      (St.le_cons rfl (St.le_cons rfl (St.le_cons rfl (St.le_cons rfl (St.le_cons rfl (St.le_cons rfl (St.le_cons rfl (St.le_cons rfl (St.le_cons rfl (St.le_nil _)))))))))) (Nat.zero_le _) fun i hi => ?_
    apply WPA.seq
    apply WPA.region
    · apply Trace.pu [] (.cmp (.plain rfl) (.plain rfl) rfl)
      exact .nil _
    · exact keepOK_of hk hn rfl
    apply WPA.seq
    refine WPA.cond rfl (fun hc1 => ?_) (fun hc1 => ?_)
    · have hlt : i < l.length := by simpa using hc1
      obtain ⟨p, hp⟩ : ∃ p, l.getD i (0, 0) = p := ⟨_, rfl⟩
      have hpush := eCols_push hlt
      rw [hp] at hpush
      apply WPA.skip
      apply WPA.seq
      apply WPA.block
      apply WPA.seq
      apply WPA.region
      · first | apply Trace.pu [] (.indexRows el64 (.plain rfl) (.plain rfl) (fun _ => ⟨by omega, by omega⟩)) | apply Trace.pu [] (.indexOwn el64 (.plain rfl) (.plain rfl) (fun _ => ⟨by omega, by omega⟩)) | apply Trace.pu [] (.indexSl el64 (.plain rfl) (.plain rfl) (fun _ => ⟨by omega, by omega⟩))
        first | apply Trace.pu [_] (.loadAllD ty49 (.plain rfl) rfl (by simp)) | apply Trace.pu [_] (.loadLocD ty49 (.plain rfl) rfl (fun _ => by simp)) | apply Trace.pu [_] (.loadLoc ty49 (.plain rfl) rfl (fun _ => Nat.le_of_ble_eq_true rfl)) | apply Trace.pu [] (.loadRp ty49 (.plain rfl) (fun _ => by decide)) | apply Trace.pu [] (.loadRp ty49 (.plain rfl) (fun _ => Nat.le_of_ble_eq_true rfl)) | apply Trace.pu [_] (.loadCol ty49 (.plain rfl) rfl rfl (fun _ => by decide) (fun _ => by omega)) | apply Trace.pu [_] (.loadArr ty49 (.plain rfl) rfl)
        apply Trace.alloc 7 [] (.data _) zo49 (cellsAs_data _) rfl
        first | apply Trace.storeD ty49 (.plain rfl) (.plain rfl) rfl rfl (by simp) (by simp [AV.oneB, single, intsD, rowsD]) (by simp) (spliceL_all (by simp)) | apply Trace.storeD ty49 (.plain rfl) (.plain rfl) rfl rfl (by simp) (by simp [AV.oneB, single, intsD, rowsD]) (by simp) rfl | apply Trace.storeDA ty49 (.plain rfl) (.plain rfl) rfl rfl (by simp) (by simp [AV.oneB, single]) (by simp) rfl | apply Trace.storeLoc ty49 (.plain rfl) (.plain rfl) rfl rfl (by simp) (by simp [AV.oneB, single]) (by simp) rfl | apply Trace.storeRow ty49 (.plain rfl) (.plain rfl) rfl rfl rfl rfl (by decide) (by simp [AV.oneB, single]) rfl (by omega)
        exact .nil _
      · exact keepOK_of hk hn rfl
      refine WPA.weaken (T := [(sl 1, .av (.d (pairsD l))), (sl 4, .av (.loc 4 0)), (sl 5, .av (.loc 5 0)), (sl 11, .av (.d (pairsD l))), (sl 12, .av (iv .i64 (l.length))), (sl 13, .av (iv .i64 (i))), (sl 7, .av (.loc 7 0)), (bk 4, .blk (.data [.v (.slice none 0 0), .v (.slice none 0 0)])), (bk 5, .blk (.cells [.d (latD n), .own 90 i])), (bk 90, .blk (.app 4 i (eCols (l.take i)))), (bk 7, .blk (.data [.v (.int .i64 p.1), .v (.int .i64 p.2)]))]) ?_ (St.le_cons rfl (St.le_cons rfl (St.le_cons rfl (St.le_cons rfl (St.le_cons rfl (St.le_cons rfl (St.le_cons rfl (St.le_cons rfl (St.le_cons rfl (St.le_cons rfl (St.le_cons (by rw [← hp]; rfl) (St.le_nil _))))))))))))
      apply WPA.region
      · apply Trace.pu [] (.fieldAddr fl25_1 (.plain rfl) rfl)
        apply Trace.pu [_] (.loadLoc1 ty23 (.plain rfl) rfl rfl)
        apply Trace.pu [] (.indexLoc ar49 (.plain rfl) (.plain rfl) (fun _ => by decide) rfl)
        first | apply Trace.pu [_] (.loadLoc1D ty3 (.plain rfl) rfl rfl) | apply Trace.pu [_] (.loadLoc1 ty3 (.plain rfl) rfl rfl) | apply Trace.pu [] (.loadRp1 ty3 (.plain rfl) rfl) | apply Trace.pu [_] (.loadCol1 ty3 (.plain rfl) rfl rfl rfl (fun _ => by omega))
        apply Trace.pu [] (.indexLoc ar49 (.plain rfl) (.plain rfl) (fun _ => by decide) rfl)
        first | apply Trace.pu [_] (.loadLoc1D ty3 (.plain rfl) rfl rfl) | apply Trace.pu [_] (.loadLoc1 ty3 (.plain rfl) rfl rfl) | apply Trace.pu [] (.loadRp1 ty3 (.plain rfl) rfl) | apply Trace.pu [_] (.loadCol1 ty3 (.plain rfl) rfl rfl rfl (fun _ => by omega))
        apply Trace.pu [] (.build zo43 pl43 (.cons (.plain rfl) rfl rfl (Nat.le_of_ble_eq_true rfl) (.cons (.plain rfl) rfl rfl (Nat.le_of_ble_eq_true rfl) (.cons (.plain rfl) rfl rfl (Nat.le_of_ble_eq_true rfl) (.cons (.plain rfl) rfl rfl (Nat.le_of_ble_eq_true rfl) (.nil _ _))))) rfl)
        apply Trace.buildSlice 24 [] so23 zo43 rfl (by decide) (by decide) (.cons (.plain rfl) rfl rfl (Nat.le_of_ble_eq_true rfl) (.nil _ _)) rfl rfl rfl
        apply Trace.append 25 [bk 90, bk 24, sl 18, sl 24] ap23 kd23 (by decide) (.own (.plain rfl) rfl) (.own (.plain rfl) rfl) (Col.ones rfl) (labs_ok rfl) (by omega) (by omega) rfl rfl
        apply Trace.pu [] (.fieldAddr fl25_1 (.plain rfl) rfl)
        first | apply Trace.storeD ty23 (.plain rfl) (.plain rfl) rfl rfl rfl (by simp [AV.oneB, single]) (Nat.le_of_ble_eq_true rfl) rfl | apply Trace.storeDA ty23 (.plain rfl) (.plain rfl) rfl rfl rfl (by simp [AV.oneB, single]) (Nat.le_of_ble_eq_true rfl) rfl | apply Trace.storeLoc ty23 (.plain rfl) (.plain rfl) rfl rfl rfl (by simp [AV.oneB, single]) (Nat.le_of_ble_eq_true rfl) rfl | apply Trace.storeRow ty23 (.plain rfl) (.plain rfl) rfl rfl rfl rfl (by decide) (by simp [AV.oneB, single]) rfl (by omega)
        exact .nil _
      · exact keepOK_of hk hn rfl
      refine WPA.ghost (Ghost.swap 90 25 (by rw [hk]; decide) (by rw [hk]; decide) rfl) ?_
      apply WPA.region
      · apply Trace.pu [] (.arith (.plain rfl) (.plain rfl) rfl (fun _ => bd64 (by omega)))
        apply Trace.pu [] (.move (.plain rfl))
        exact .nil _
      · exact keepOK_of hk hn rfl
      refine ⟨i + 1, by omega, by omega, ?_⟩
      rw [hpush]
      exact (St.le_cons rfl (St.le_cons rfl (St.le_cons rfl (St.le_cons rfl (St.le_cons rfl (St.le_cons (slI (by omega)) (St.le_cons rfl (St.le_cons rfl (St.le_cons rfl (St.le_nil _))))))))))
    · have hie : i = l.length := by
        have : ¬ ((i : Int) < l.length) := by simpa using hc1
        omega
      subst hie
      rw [List.take_length]
      refine WPA.ghost (Ghost.cellFreeze (lb := 5) (j := 1) (l := 90) (g := fun i => ((eds l).getD i default).ds) rfl rfl rfl rfl (fun i hi => eCols_at hi) rfl) ?_
      refine WPA.ghost (Ghost.reblk (l := 5) (B' := .data (edg n l).ds) rfl (fun V M w h => by
        have e : (edg n l).ds = [latD n, .rows 4 l.length fun i => ((eds l).getD i default).ds] := by
          show [intsD (List.replicate n 0), edgesD (eds l)] = _
          rw [latD_eq]
          show [latD n, D.rows 4 (eds l).length _] = _
          rw [show (eds l).length = l.length from by simp [eds]]
        rw [e]
        exact h)) ?_
      refine WPA.weaken (T := [(sl 1, .av (.d (pairsD l))), (sl 4, .av (.loc 4 0)), (sl 5, .av (.loc 5 0)), (bk 4, .blk (.data [.v (.slice none 0 0), .v (.slice none 0 0)])), (bk 5, .blk (.data (edg n l).ds))]) ?_ (St.le_cons rfl (St.le_cons rfl (St.le_cons rfl (St.le_cons rfl (St.le_cons rfl (St.le_nil _))))))
      apply WPA.exit
      apply WPA.seq
      apply WPA.region
      · first | apply Trace.pu [_] (.loadAllD ty25 (.plain rfl) rfl (by simp)) | apply Trace.pu [_] (.loadLocD ty25 (.plain rfl) rfl (fun _ => by simp)) | apply Trace.pu [_] (.loadLoc ty25 (.plain rfl) rfl (fun _ => Nat.le_of_ble_eq_true rfl)) | apply Trace.pu [] (.loadRp ty25 (.plain rfl) (fun _ => by decide)) | apply Trace.pu [] (.loadRp ty25 (.plain rfl) (fun _ => Nat.le_of_ble_eq_true rfl)) | apply Trace.pu [_] (.loadCol ty25 (.plain rfl) rfl rfl (fun _ => by decide) (fun _ => by omega)) | apply Trace.pu [_] (.loadArr ty25 (.plain rfl) rfl)
        first | apply Trace.storeD ty25 (.plain rfl) (.plain rfl) rfl rfl (by simp) (by simp [AV.oneB, single, intsD, rowsD]) (by simp) (spliceL_all (by simp)) | apply Trace.storeD ty25 (.plain rfl) (.plain rfl) rfl rfl (by simp) (by simp [AV.oneB, single, intsD, rowsD]) (by simp) rfl | apply Trace.storeDA ty25 (.plain rfl) (.plain rfl) rfl rfl (by simp) (by simp [AV.oneB, single]) (by simp) rfl | apply Trace.storeLoc ty25 (.plain rfl) (.plain rfl) rfl rfl (by simp) (by simp [AV.oneB, single]) (by simp) rfl | apply Trace.storeRow ty25 (.plain rfl) (.plain rfl) rfl rfl rfl rfl (by decide) (by simp [AV.oneB, single]) rfl (by omega)
        exact .nil _
      · exact keepOK_of hk hn rfl
      apply WPA.ret
      refine ⟨.inr rfl, ⟨_, (.cons (.cellD rfl rfl ty25 rfl) .nil), ?_⟩, (by simp [St.get])⟩
      rfl
  · exact absurd trivial htt

theorem z1 : (edg 3 [(2, 0), (0, 1), (1, 0)]).Sz := sz_of (by decide +kernel)
theorem z2 : (edg 3 []).Sz := sz_of (by decide +kernel)
theorem z3 : (edg 1 [(0, 0)]).Sz := sz_of (by decide +kernel)
theorem z4 : (edg 2 [(0, 1)]).Sz := sz_of (by decide +kernel)
theorem c22P1 : FnSpec Try.prog 11 [(edg 3 [(2, 0), (0, 1), (1, 0)]).av] [] (.tup ([nextD [[2], [0, 1]], .v (.int .i64 0)].map .d)) [] [] := paN z1 (by decide) (by decide +kernel)
theorem c22P2 : FnSpec Try.prog 11 [(edg 3 []).av] [] (.tup ([nextD [[0], [1], [2]], .v (.int .i64 0)].map .d)) [] [] := paN z2 (by decide) (by decide +kernel)
theorem c22S1 : FnSpec Try.prog 13 [(edg 3 [(2, 0), (0, 1), (1, 0)]).av, .d (intsD [0, 0, 5])] [] (.tup ([intsD [2, 0, 1], .v (.int .i64 0)].map .d)) [] [] := seN z1 (by decide) (by decide +kernel)
theorem c22S2 : FnSpec Try.prog 13 [(edg 3 [(2, 0), (0, 1), (1, 0)]).av, .d (intsD [1, 0, 5])] [] (.tup ([intsD [0, 1, 2], .v (.int .i64 0)].map .d)) [] [] := seN z1 (by decide) (by decide +kernel)
theorem c22S3 : FnSpec Try.prog 13 [(edg 3 []).av, .d (intsD [])] [] (.tup ([intsD [0, 1, 2], .v (.int .i64 0)].map .d)) [] [] := seN z2 (by decide) (by decide +kernel)
theorem c22S4 : FnSpec Try.prog 13 [(edg 1 [(0, 0)]).av, .d (intsD [0])] [] (.tup ([intsD [], .v (.int .i64 211)].map .d)) [] [] := seN z3 (by decide) (by decide +kernel)
theorem c22S5 : FnSpec Try.prog 13 [(edg 2 [(0, 1)]).av, .d (intsD [-1])] [] (.tup ([intsD [], .v (.int .i64 1)].map .d)) [] [] := seN z4 (by decide) (by decide +kernel)
theorem c22S6 : FnSpec Try.prog 13 [(edg 2 [(0, 1)]).av, .d (intsD [])] [] (.tup ([intsD [], .v (.int .i64 1)].map .d)) [] [] := seN z4 (by decide) (by decide +kernel)
theorem rl_small {a : RL} (h : (a.all fun r => decide (r.length ≤ 4611686018427387904)) = true) (i : Nat) : (a.getD i []).length ≤ 4611686018427387904 := by
  by_cases hi : i < a.length
  · rw [getD_lt _ _ hi]; simpa using List.all_eq_true.1 h _ (List.getElem_mem hi)
  · simp [List.getD_eq_getElem?_getD, List.getElem?_eq_none (by omega : a.length ≤ i)]
/-- soundpost/soundpostlaw22.sane -/
theorem spec9  : FnSpec Try.prog 9 [] [] (bv true) [] [] := by
  refine fnSpec_of (rs := [.tmp 0]) Try.func9 rfl rfl (Nat.le_of_ble_eq_true rfl) (by simp [St.get]) fun E hk hn => ?_
  apply WPA.seq
  apply WPA.region
  · apply Trace.pu [] (.assign (.plain rfl))
    exact .nil _
  · exact keepOK_of hk hn rfl
  apply WPA.seq
  apply WPA.region
  · apply Trace.pu [] (.build zo49 pl49 (.cons (.plain rfl) rfl rfl (Nat.le_of_ble_eq_true rfl) (.cons (.plain rfl) rfl rfl (Nat.le_of_ble_eq_true rfl) (.nil _ _))) rfl)
    apply Trace.pu [] (.build zo49 pl49 (.cons (.plain rfl) rfl rfl (Nat.le_of_ble_eq_true rfl) (.cons (.plain rfl) rfl rfl (Nat.le_of_ble_eq_true rfl) (.nil _ _))) rfl)
    apply Trace.pu [] (.build zo49 pl49 (.cons (.plain rfl) rfl rfl (Nat.le_of_ble_eq_true rfl) (.cons (.plain rfl) rfl rfl (Nat.le_of_ble_eq_true rfl) (.nil _ _))) rfl)
    apply Trace.buildRows (g := fun i => [D.v (.int .i64 (([(2, 0), (0, 1), (1, 0)] : PL).getD i (0, 0)).1), .v (.int .i64 (([(2, 0), (0, 1), (1, 0)] : PL).getD i (0, 0)).2)]) so64 zo49 rfl (by decide) (by decide) (.cons (.plain rfl) rfl rfl (Nat.le_of_ble_eq_true rfl) (.cons (.plain rfl) rfl rfl (Nat.le_of_ble_eq_true rfl) (.cons (.plain rfl) rfl rfl (Nat.le_of_ble_eq_true rfl) (.nil _ _)))) rfl (fun i hi => by rcases (by omega : i = 0 ∨ i = 1 ∨ i = 2) with rfl | rfl | rfl <;> rfl)
    apply Trace.cu (callArgs0 (.cons (.plain rfl) (.cons (.plain rfl) .nil))) (spec24 3 (by decide) [(2, 0), (0, 1), (1, 0)] (by decide)) en24
    apply Trace.alloc 1 [] (.data _) zo25 (cellsAs_data _) rfl
    first | apply Trace.storeD ty25 (.plain rfl) (.plain rfl) rfl rfl (by simp) (by simp [AV.oneB, single, intsD, rowsD]) (by simp) (spliceL_all (by simp)) | apply Trace.storeD ty25 (.plain rfl) (.plain rfl) rfl rfl (by simp) (by simp [AV.oneB, single, intsD, rowsD]) (by simp) rfl | apply Trace.storeDA ty25 (.plain rfl) (.plain rfl) rfl rfl (by simp) (by simp [AV.oneB, single]) (by simp) rfl | apply Trace.storeLoc ty25 (.plain rfl) (.plain rfl) rfl rfl (by simp) (by simp [AV.oneB, single]) (by simp) rfl | apply Trace.storeRow ty25 (.plain rfl) (.plain rfl) rfl rfl rfl rfl (by decide) (by simp [AV.oneB, single]) rfl (by omega)
    exact .nil _
  · exact keepOK_of hk hn rfl
  apply WPA.seq
  apply WPA.region
  · first | apply Trace.pu [_] (.loadAllD ty25 (.plain rfl) rfl (by simp)) | apply Trace.pu [_] (.loadLocD ty25 (.plain rfl) rfl (fun _ => by simp)) | apply Trace.pu [_] (.loadLoc ty25 (.plain rfl) rfl (fun _ => Nat.le_of_ble_eq_true rfl)) | apply Trace.pu [] (.loadRp ty25 (.plain rfl) (fun _ => by decide)) | apply Trace.pu [] (.loadRp ty25 (.plain rfl) (fun _ => Nat.le_of_ble_eq_true rfl)) | apply Trace.pu [_] (.loadCol ty25 (.plain rfl) rfl rfl (fun _ => by decide) (fun _ => by omega)) | apply Trace.pu [_] (.loadArr ty25 (.plain rfl) rfl)
    apply Trace.ct (callArgs0 (.cons (.plain rfl) .nil)) c22P1 en11
    apply Trace.pu [] (.move (.plain rfl))
    apply Trace.pu [] (.extract (.plain rfl) rfl)
    apply Trace.pu [] (.extract (.plain rfl) rfl)
    apply Trace.pu [] (.assign (.plain rfl))
    apply Trace.pu [] (.assign (.plain rfl))
    exact .nil _
  · exact keepOK_of hk hn rfl
  apply WPA.seq
  apply WPA.region
  · first | apply Trace.pu [_] (.loadAllD ty25 (.plain rfl) rfl (by simp)) | apply Trace.pu [_] (.loadLocD ty25 (.plain rfl) rfl (fun _ => by simp)) | apply Trace.pu [_] (.loadLoc ty25 (.plain rfl) rfl (fun _ => Nat.le_of_ble_eq_true rfl)) | apply Trace.pu [] (.loadRp ty25 (.plain rfl) (fun _ => by decide)) | apply Trace.pu [] (.loadRp ty25 (.plain rfl) (fun _ => Nat.le_of_ble_eq_true rfl)) | apply Trace.pu [_] (.loadCol ty25 (.plain rfl) rfl rfl (fun _ => by decide) (fun _ => by omega)) | apply Trace.pu [_] (.loadArr ty25 (.plain rfl) rfl)
    apply Trace.buildRows (g := fun i => [Col.ints .i64 [0, 0, 5]].map (Col.at · i)) so22 zo3 rfl (by decide) (by decide) (.cons (.plain rfl) rfl rfl (Nat.le_of_ble_eq_true rfl) (.cons (.plain rfl) rfl rfl (Nat.le_of_ble_eq_true rfl) (.cons (.plain rfl) rfl rfl (Nat.le_of_ble_eq_true rfl) (.nil _ _)))) rfl (fun i hi => by rcases (by omega : i = 0 ∨ i = 1 ∨ i = 2) with rfl | rfl | rfl <;> rfl)
    apply Trace.ct (callArgs0 (.cons (.plain rfl) (.cons (.plain rfl) .nil))) c22S1 en13
    apply Trace.pu [] (.move (.plain rfl))
    apply Trace.pu [] (.extract (.plain rfl) rfl)
    apply Trace.pu [] (.extract (.plain rfl) rfl)
    apply Trace.pu [] (.assign (.plain rfl))
    apply Trace.pu [] (.assign (.plain rfl))
    exact .nil _
  · exact keepOK_of hk hn rfl
  apply WPA.seq
  apply WPA.region
  · first | apply Trace.pu [_] (.loadAllD ty25 (.plain rfl) rfl (by simp)) | apply Trace.pu [_] (.loadLocD ty25 (.plain rfl) rfl (fun _ => by simp)) | apply Trace.pu [_] (.loadLoc ty25 (.plain rfl) rfl (fun _ => Nat.le_of_ble_eq_true rfl)) | apply Trace.pu [] (.loadRp ty25 (.plain rfl) (fun _ => by decide)) | apply Trace.pu [] (.loadRp ty25 (.plain rfl) (fun _ => Nat.le_of_ble_eq_true rfl)) | apply Trace.pu [_] (.loadCol ty25 (.plain rfl) rfl rfl (fun _ => by decide) (fun _ => by omega)) | apply Trace.pu [_] (.loadArr ty25 (.plain rfl) rfl)
    apply Trace.buildRows (g := fun i => [Col.ints .i64 [1, 0, 5]].map (Col.at · i)) so22 zo3 rfl (by decide) (by decide) (.cons (.plain rfl) rfl rfl (Nat.le_of_ble_eq_true rfl) (.cons (.plain rfl) rfl rfl (Nat.le_of_ble_eq_true rfl) (.cons (.plain rfl) rfl rfl (Nat.le_of_ble_eq_true rfl) (.nil _ _)))) rfl (fun i hi => by rcases (by omega : i = 0 ∨ i = 1 ∨ i = 2) with rfl | rfl | rfl <;> rfl)
    apply Trace.ct (callArgs0 (.cons (.plain rfl) (.cons (.plain rfl) .nil))) c22S2 en13
    apply Trace.pu [] (.move (.plain rfl))
    apply Trace.pu [] (.extract (.plain rfl) rfl)
    apply Trace.pu [] (.extract (.plain rfl) rfl)
    apply Trace.pu [] (.assign (.plain rfl))
    apply Trace.pu [] (.assign (.plain rfl))
    exact .nil _
  · exact keepOK_of hk hn rfl
  apply WPA.seq
  apply WPA.region
  · apply Trace.cu (callArgs0 (.cons (.plain rfl) (.cons (.plain rfl) .nil))) (FnSpec.argLe (A1 := [_]) (A2 := []) (spec24 3 (by decide) [] (by decide)) den_emp) en24
    apply Trace.ct (callArgs0 (.cons (.plain rfl) .nil)) c22P2 en11
    apply Trace.pu [] (.move (.plain rfl))
    apply Trace.pu [] (.extract (.plain rfl) rfl)
    apply Trace.pu [] (.extract (.plain rfl) rfl)
    apply Trace.pu [] (.assign (.plain rfl))
    apply Trace.pu [] (.assign (.plain rfl))
    exact .nil _
  · exact keepOK_of hk hn rfl
  apply WPA.seq
  apply WPA.region
  · apply Trace.cu (callArgs0 (.cons (.plain rfl) (.cons (.plain rfl) .nil))) (FnSpec.argLe (A1 := [_]) (A2 := []) (spec24 3 (by decide) [] (by decide)) den_emp) en24
    apply Trace.ct (callArgs0 (.cons (.plain rfl) (.cons (.plain rfl) .nil))) (FnSpec.argLe (A1 := [_]) (A2 := []) c22S3 den_emp) en13
    apply Trace.pu [] (.move (.plain rfl))
    apply Trace.pu [] (.extract (.plain rfl) rfl)
    apply Trace.pu [] (.extract (.plain rfl) rfl)
    apply Trace.pu [] (.assign (.plain rfl))
    apply Trace.pu [] (.assign (.plain rfl))
    exact .nil _
  · exact keepOK_of hk hn rfl
  apply WPA.seq
  apply WPA.region
  · apply Trace.pu [] (.build zo49 pl49 (.cons (.plain rfl) rfl rfl (Nat.le_of_ble_eq_true rfl) (.cons (.plain rfl) rfl rfl (Nat.le_of_ble_eq_true rfl) (.nil _ _))) rfl)
    apply Trace.buildRows (g := fun i => [D.v (.int .i64 (([(0, 0)] : PL).getD i (0, 0)).1), .v (.int .i64 (([(0, 0)] : PL).getD i (0, 0)).2)]) so64 zo49 rfl (by decide) (by decide) (.cons (.plain rfl) rfl rfl (Nat.le_of_ble_eq_true rfl) (.nil _ _)) rfl (fun i hi => by cases i with | zero => rfl | succ k => omega)
    apply Trace.cu (callArgs0 (.cons (.plain rfl) (.cons (.plain rfl) .nil))) (spec24 1 (by decide) [(0, 0)] (by decide)) en24
    apply Trace.buildRows (g := fun i => [Col.ints .i64 [0]].map (Col.at · i)) so22 zo3 rfl (by decide) (by decide) (.cons (.plain rfl) rfl rfl (Nat.le_of_ble_eq_true rfl) (.nil _ _)) rfl (fun i hi => by cases i with | zero => rfl | succ k => omega)
    apply Trace.ct (callArgs0 (.cons (.plain rfl) (.cons (.plain rfl) .nil))) c22S4 en13
    apply Trace.pu [] (.move (.plain rfl))
    apply Trace.pu [] (.extract (.plain rfl) rfl)
    apply Trace.pu [] (.extract (.plain rfl) rfl)
    apply Trace.pu [] (.assign (.plain rfl))
    apply Trace.pu [] (.assign (.plain rfl))
    exact .nil _
  · exact keepOK_of hk hn rfl
  apply WPA.seq
  apply WPA.region
  · apply Trace.pu [] (.build zo49 pl49 (.cons (.plain rfl) rfl rfl (Nat.le_of_ble_eq_true rfl) (.cons (.plain rfl) rfl rfl (Nat.le_of_ble_eq_true rfl) (.nil _ _))) rfl)
    apply Trace.buildRows (g := fun i => [D.v (.int .i64 (([(0, 1)] : PL).getD i (0, 0)).1), .v (.int .i64 (([(0, 1)] : PL).getD i (0, 0)).2)]) so64 zo49 rfl (by decide) (by decide) (.cons (.plain rfl) rfl rfl (Nat.le_of_ble_eq_true rfl) (.nil _ _)) rfl (fun i hi => by cases i with | zero => rfl | succ k => omega)
    apply Trace.cu (callArgs0 (.cons (.plain rfl) (.cons (.plain rfl) .nil))) (spec24 2 (by decide) [(0, 1)] (by decide)) en24
    apply Trace.buildRows (g := fun i => [Col.ints .i64 [-1]].map (Col.at · i)) so22 zo3 rfl (by decide) (by decide) (.cons (.plain rfl) rfl rfl (Nat.le_of_ble_eq_true rfl) (.nil _ _)) rfl (fun i hi => by cases i with | zero => rfl | succ k => omega)
    apply Trace.ct (callArgs0 (.cons (.plain rfl) (.cons (.plain rfl) .nil))) c22S5 en13
    apply Trace.pu [] (.move (.plain rfl))
    apply Trace.pu [] (.extract (.plain rfl) rfl)
    apply Trace.pu [] (.extract (.plain rfl) rfl)
    apply Trace.pu [] (.assign (.plain rfl))
    apply Trace.pu [] (.assign (.plain rfl))
    exact .nil _
  · exact keepOK_of hk hn rfl
  apply WPA.seq
  apply WPA.region
  · apply Trace.pu [] (.build zo49 pl49 (.cons (.plain rfl) rfl rfl (Nat.le_of_ble_eq_true rfl) (.cons (.plain rfl) rfl rfl (Nat.le_of_ble_eq_true rfl) (.nil _ _))) rfl)
    apply Trace.buildRows (g := fun i => [D.v (.int .i64 (([(0, 1)] : PL).getD i (0, 0)).1), .v (.int .i64 (([(0, 1)] : PL).getD i (0, 0)).2)]) so64 zo49 rfl (by decide) (by decide) (.cons (.plain rfl) rfl rfl (Nat.le_of_ble_eq_true rfl) (.nil _ _)) rfl (fun i hi => by cases i with | zero => rfl | succ k => omega)
    apply Trace.cu (callArgs0 (.cons (.plain rfl) (.cons (.plain rfl) .nil))) (spec24 2 (by decide) [(0, 1)] (by decide)) en24
    apply Trace.ct (callArgs0 (.cons (.plain rfl) (.cons (.plain rfl) .nil))) (FnSpec.argLe (A1 := [_]) (A2 := []) c22S6 den_emp) en13
    apply Trace.pu [] (.move (.plain rfl))
    apply Trace.pu [] (.extract (.plain rfl) rfl)
    apply Trace.pu [] (.extract (.plain rfl) rfl)
    apply Trace.pu [] (.assign (.plain rfl))
    apply Trace.pu [] (.assign (.plain rfl))
    exact .nil _
  · exact keepOK_of hk hn rfl
  apply WPA.seq
  apply WPA.region
  · apply Trace.pu [] (.move (.plain rfl))
    apply Trace.pu [] (.cmp (.plain rfl) (.plain rfl) rfl)
    apply Trace.pu [] (.move (.plain rfl))
    apply Trace.pg [] rfl (.move (.plain rfl))
    apply Trace.pg [] rfl (.cmp (.gd rfl (fun h => h)) (.plain rfl) rfl)
    apply Trace.pu [] (.pick (.plain rfl) (.gd rfl (by simp)) (.plain rfl))
    apply Trace.pu [] (.move (.plain rfl))
    apply Trace.pg [] rfl (.move (.plain rfl))
    apply Trace.pg [] rfl (.cmp (.gd rfl (fun h => h)) (.plain rfl) rfl)
    apply Trace.pu [] (.pick (.plain rfl) (.gd rfl (by simp)) (.plain rfl))
    apply Trace.pu [] (.move (.plain rfl))
    apply Trace.pg [] rfl (.move (.plain rfl))
    apply Trace.pg [] rfl (.cmp (.gd rfl (fun h => h)) (.plain rfl) rfl)
    apply Trace.pu [] (.pick (.plain rfl) (.gd rfl (by simp)) (.plain rfl))
    apply Trace.pu [] (.move (.plain rfl))
    apply Trace.pg [] rfl (.move (.plain rfl))
    apply Trace.pg [] rfl (.cmp (.gd rfl (fun h => h)) (.plain rfl) rfl)
    apply Trace.pu [] (.pick (.plain rfl) (.gd rfl (by simp)) (.plain rfl))
    apply Trace.pu [] (.move (.plain rfl))
    apply Trace.pg [] rfl (.move (.plain rfl))
    apply Trace.pg [] rfl (.cmp (.gd rfl (fun h => h)) (.plain rfl) rfl)
    apply Trace.pu [] (.pick (.plain rfl) (.gd rfl (by simp)) (.plain rfl))
    apply Trace.pu [] (.move (.plain rfl))
    apply Trace.pg [] rfl (.move (.plain rfl))
    apply Trace.pg [] rfl (.cmp (.gd rfl (fun h => h)) (.plain rfl) rfl)
    apply Trace.pu [] (.pick (.plain rfl) (.gd rfl (by simp)) (.plain rfl))
    apply Trace.pu [] (.move (.plain rfl))
    apply Trace.pg [] rfl (.move (.plain rfl))
    apply Trace.pg [] rfl (.cmp (.gd rfl (fun h => h)) (.plain rfl) rfl)
    apply Trace.pu [] (.pick (.plain rfl) (.gd rfl (by simp)) (.plain rfl))
    apply Trace.pu [] (.assign (.plain rfl))
    exact .nil _
  · exact keepOK_of hk hn rfl
  apply WPA.seq
  apply WPA.region
  · apply Trace.pu [] (.move (.plain rfl))
    apply Trace.pu [] (.move (.plain rfl))
    apply Trace.pg [] rfl (.move (.plain rfl))
    apply Trace.og rfl
    apply Trace.buildRows (g := fun i => [Col.ints .i64 [2]].map (Col.at · i)) so22 zo3 rfl (by decide) (by decide) (.cons (.plain rfl) rfl rfl (Nat.le_of_ble_eq_true rfl) (.nil _ _)) rfl (fun i hi => by cases i with | zero => rfl | succ k => omega)
    apply Trace.og rfl
    apply Trace.buildRows (g := fun i => [Col.ints .i64 [0, 1]].map (Col.at · i)) so22 zo3 rfl (by decide) (by decide) (.cons (.plain rfl) rfl rfl (Nat.le_of_ble_eq_true rfl) (.cons (.plain rfl) rfl rfl (Nat.le_of_ble_eq_true rfl) (.nil _ _))) rfl (fun i hi => by rcases (by omega : i = 0 ∨ i = 1) with rfl | rfl <;> rfl)
    apply Trace.og rfl
    apply Trace.buildRows (g := fun i => [rowD (([[2], [0, 1]] : RL).getD i [])]) so28 zo22 rfl (by decide) (by decide) (.cons (.plain rfl) rfl rfl (Nat.le_of_ble_eq_true rfl) (.cons (.plain rfl) rfl rfl (Nat.le_of_ble_eq_true rfl) (.nil _ _))) rfl (fun i hi => by rcases (by omega : i = 0 ∨ i = 1) with rfl | rfl <;> rfl)
    apply Trace.cg rfl (callArgs0 (.cons (.gd rfl (fun h => h)) (.cons (.plain rfl) .nil))) (fun _ => saT (a := [[2], [0, 1]]) (by decide) (rl_small (by decide))) en15
    apply Trace.pu [] (.pick (.plain rfl) (.gd rfl (by simp)) (.plain rfl))
    apply Trace.pu [] (.move (.plain rfl))
    apply Trace.pg [] rfl (.move (.plain rfl))
    apply Trace.og rfl
    apply Trace.buildRows (g := fun i => [Col.ints .i64 [2, 0, 1]].map (Col.at · i)) so22 zo3 rfl (by decide) (by decide) (.cons (.plain rfl) rfl rfl (Nat.le_of_ble_eq_true rfl) (.cons (.plain rfl) rfl rfl (Nat.le_of_ble_eq_true rfl) (.cons (.plain rfl) rfl rfl (Nat.le_of_ble_eq_true rfl) (.nil _ _)))) rfl (fun i hi => by rcases (by omega : i = 0 ∨ i = 1 ∨ i = 2) with rfl | rfl | rfl <;> rfl)
    apply Trace.cg rfl (callArgs0 (.cons (.gd rfl (fun h => h)) (.cons (.plain rfl) .nil))) (fun _ => smT (a := [2, 0, 1]) (by decide)) en16
    apply Trace.pu [] (.pick (.plain rfl) (.gd rfl (by simp)) (.plain rfl))
    apply Trace.pu [] (.move (.plain rfl))
    apply Trace.pg [] rfl (.move (.plain rfl))
    apply Trace.og rfl
    apply Trace.buildRows (g := fun i => [Col.ints .i64 [0, 1, 2]].map (Col.at · i)) so22 zo3 rfl (by decide) (by decide) (.cons (.plain rfl) rfl rfl (Nat.le_of_ble_eq_true rfl) (.cons (.plain rfl) rfl rfl (Nat.le_of_ble_eq_true rfl) (.cons (.plain rfl) rfl rfl (Nat.le_of_ble_eq_true rfl) (.nil _ _)))) rfl (fun i hi => by rcases (by omega : i = 0 ∨ i = 1 ∨ i = 2) with rfl | rfl | rfl <;> rfl)
    apply Trace.cg rfl (callArgs0 (.cons (.gd rfl (fun h => h)) (.cons (.plain rfl) .nil))) (fun _ => smT (a := [0, 1, 2]) (by decide)) en16
    apply Trace.pu [] (.pick (.plain rfl) (.gd rfl (by simp)) (.plain rfl))
    apply Trace.pu [] (.move (.plain rfl))
    apply Trace.pg [] rfl (.move (.plain rfl))
    apply Trace.og rfl
    apply Trace.buildRows (g := fun i => [Col.ints .i64 [0]].map (Col.at · i)) so22 zo3 rfl (by decide) (by decide) (.cons (.plain rfl) rfl rfl (Nat.le_of_ble_eq_true rfl) (.nil _ _)) rfl (fun i hi => by cases i with | zero => rfl | succ k => omega)
    apply Trace.og rfl
    apply Trace.buildRows (g := fun i => [Col.ints .i64 [1]].map (Col.at · i)) so22 zo3 rfl (by decide) (by decide) (.cons (.plain rfl) rfl rfl (Nat.le_of_ble_eq_true rfl) (.nil _ _)) rfl (fun i hi => by cases i with | zero => rfl | succ k => omega)
    apply Trace.og rfl
    apply Trace.buildRows (g := fun i => [Col.ints .i64 [2]].map (Col.at · i)) so22 zo3 rfl (by decide) (by decide) (.cons (.plain rfl) rfl rfl (Nat.le_of_ble_eq_true rfl) (.nil _ _)) rfl (fun i hi => by cases i with | zero => rfl | succ k => omega)
    apply Trace.og rfl
    apply Trace.buildRows (g := fun i => [rowD (([[0], [1], [2]] : RL).getD i [])]) so28 zo22 rfl (by decide) (by decide) (.cons (.plain rfl) rfl rfl (Nat.le_of_ble_eq_true rfl) (.cons (.plain rfl) rfl rfl (Nat.le_of_ble_eq_true rfl) (.cons (.plain rfl) rfl rfl (Nat.le_of_ble_eq_true rfl) (.nil _ _)))) rfl (fun i hi => by rcases (by omega : i = 0 ∨ i = 1 ∨ i = 2) with rfl | rfl | rfl <;> rfl)
    apply Trace.cg rfl (callArgs0 (.cons (.gd rfl (fun h => h)) (.cons (.plain rfl) .nil))) (fun _ => saT (a := [[0], [1], [2]]) (by decide) (rl_small (by decide))) en15
    apply Trace.pu [] (.pick (.plain rfl) (.gd rfl (by simp)) (.plain rfl))
    apply Trace.pu [] (.move (.plain rfl))
    apply Trace.pg [] rfl (.move (.plain rfl))
    apply Trace.og rfl
    apply Trace.buildRows (g := fun i => [Col.ints .i64 [0, 1, 2]].map (Col.at · i)) so22 zo3 rfl (by decide) (by decide) (.cons (.plain rfl) rfl rfl (Nat.le_of_ble_eq_true rfl) (.cons (.plain rfl) rfl rfl (Nat.le_of_ble_eq_true rfl) (.cons (.plain rfl) rfl rfl (Nat.le_of_ble_eq_true rfl) (.nil _ _)))) rfl (fun i hi => by rcases (by omega : i = 0 ∨ i = 1 ∨ i = 2) with rfl | rfl | rfl <;> rfl)
    apply Trace.cg rfl (callArgs0 (.cons (.gd rfl (fun h => h)) (.cons (.plain rfl) .nil))) (fun _ => smT (a := [0, 1, 2]) (by decide)) en16
    apply Trace.pu [] (.pick (.plain rfl) (.gd rfl (by simp)) (.plain rfl))
    apply Trace.pu [] (.assign (.plain rfl))
    exact .nil _
  · exact keepOK_of hk hn rfl
  apply WPA.ret
  refine ⟨.inr rfl, ⟨_, (.cons (.tmp rfl) .nil), ?_⟩, by simp [St.get]⟩
  rfl

end Go.Proofs.Ytglokdfdogmmhaa

