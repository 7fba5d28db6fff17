/- The reference's Short. -/
import Derived.Test.YtcnikeonaklkoaaGraph6F
import Derived.Test.YtcnikeonaklkoaaFam
namespace Go.Proofs.Ytcnikeonaklkoaa
open Go
set_option linter.unusedVariables false
set_option linter.unusedSimpArgs false
set_option maxRecDepth 10000
set_option maxHeartbeats 2000000

/-- The matrix while it is made: i rows. -/
abbrev Wm (n i : Nat) : List (List Int) := List.replicate i (List.replicate n FAR)
abbrev cellsM (n i : Nat) : List AV := matC (Wm n i) ++ List.replicate (n - i) nilS
theorem rowSet {n k : Nat} (h : k < n) : (List.replicate k FAR ++ List.replicate (n - k) 0).set k FAR = List.replicate (k + 1) FAR ++ List.replicate (n - (k + 1)) 0 := by
  obtain ⟨d, hd⟩ : ∃ d, n - k = d + 1 := ⟨n - k - 1, by omega⟩
  rw [hd, show n - (k + 1) = d by omega, List.set_append, if_neg (by simp), List.length_replicate, Nat.sub_self]
  have e : List.replicate (d + 1) (0 : Int) = 0 :: List.replicate d 0 := List.replicate_succ
  have e2 : List.replicate (k + 1) FAR = List.replicate k FAR ++ [FAR] := List.replicate_succ'
  rw [e, e2, List.set_cons_zero, List.append_assoc]
  rfl
theorem cellsM_length {n i : Nat} (h : i ≤ n) : (cellsM n i).length = n := by simp [matC_length]; omega
theorem cellsM_ment {n i l : Nat} (hl : l < 400) : ∀ x ∈ cellsM n i, ¬ Ment x l := by
  intro x hx hm
  rcases List.mem_append.1 hx with hx | hx
  · exact matC_ment hl x hx hm
  · have := (List.mem_replicate.1 hx).2
    subst this; cases hm
theorem cellsM_out {n i : Nat} : ∀ x ∈ (cellsM n i).set i (.own 26 n), ¬ Ment x (inn i) := by
  intro x hx hm
  rcases List.mem_or_eq_of_mem_set hx with hx | rfl
  · rcases List.mem_append.1 hx with hx | hx
    · exact matC_out (by simp) x hx hm
    · have := (List.mem_replicate.1 hx).2
      subst this; cases hm
  · generalize he : inn i = l at hm
    cases hm with
    | own => unfold inn at he; omega
theorem le_pushM {S : St} {n i : Nat} (h : (fam (Wm n i)).le S) : (fam (Wm n (i + 1))).le ((bk (inn i), .blk (.app 1 n [.ints .i64 (List.replicate n FAR)])) :: S) := by
  have e : Wm n (i + 1) = Wm n i ++ [List.replicate n FAR] := List.replicate_succ'
  rw [e]
  have := le_push (r := List.replicate n FAR) (len := n) h (by simp)
  rwa [show (Wm n i).length = i by simp] at this
theorem cellsM_succ {n i : Nat} (h : i < n) : ((cellsM n i).set i (.own 26 n)).set i (.own (inn i) n) = cellsM n (i + 1) := by
  have hm : matC (Wm n (i + 1)) = matC (Wm n i) ++ [.own (inn i) n] := by
    simp only [matC, Wm, List.length_replicate, List.range_succ, List.map_append, List.map_cons, List.map_nil]
    congr 1
    · refine List.map_congr_left fun j hj => ?_
      have : j < i := by simpa using hj
      simp [List.getD_eq_getElem?_getD, List.getElem?_replicate, this, Nat.lt_succ_of_lt this]
    · simp [List.getD_eq_getElem?_getD, List.getElem?_replicate]
  rw [List.set_set]
  unfold cellsM
  rw [hm, List.set_append, if_neg (by simp [matC_length])]
  obtain ⟨d, hd⟩ : ∃ d, n - i = d + 1 := ⟨n - i - 1, by omega⟩
  rw [hd, show n - (i + 1) = d by omega]
  simp [matC_length, List.replicate_succ]
theorem matC_set {rows : List (List Int)} {i : Nat} {r : List Int} (h : r.length = (rows.getD i []).length) : matC rows = matC (rows.set i r) := by
  simp only [matC, List.length_set]
  refine List.map_congr_left fun j hj => ?_
  have hj : j < rows.length := by simpa using hj
  by_cases hij : i = j
  · subst hij
    simp [List.getD_eq_getElem?_getD, hj] at h ⊢
    exact h.symm
  · simp [List.getD_eq_getElem?_getD, List.getElem?_set_ne hij]
theorem rowEq {m : Nat} {xs ys : List Int} (h : xs = ys) : some (Cont.blk (.app 1 m [.ints .i64 xs])) = some (Cont.blk (.app 1 m [.ints .i64 ys])) := by rw [h]
/-- soundpost/soundpostref21.Short -/
theorem spec21 (g : Gr) (hok : g.OK) : FnSpec Try.prog 21 [g.av] [] (bv g.short) [] [] := by
  have hn1 := hok.n
  have hn2 := hok.m
  refine fnSpec_of (rs := [.tmp 2]) Try.func21 rfl rfl (Nat.le_of_ble_eq_true rfl) (by simp [St.get]) fun E hk hn => ?_
  apply WPA.seq
  apply WPA.region
  · first | apply Trace.boxD 1 [] (.plain rfl) rfl rfl | apply Trace.box 1 [] (.plain rfl) rfl rfl rfl
    apply Trace.pu [] (.assign (.plain rfl))
    exact .nil _
  · exact keepOK_of hk hn rfl
  apply WPA.seq
  apply WPA.region
  · apply Trace.pu [] (.fieldAddr fl25_0 (.plain rfl) rfl)
    first | apply Trace.pu [_] (.loadLoc1D ty22 (.plain rfl) rfl rfl) | apply Trace.pu [_] (.loadLoc1 ty22 (.plain rfl) rfl rfl) | apply Trace.pu [] (.loadRp1 ty22 (.plain rfl) rfl) | apply Trace.pu [_] (.loadCol1 ty22 (.plain rfl) rfl rfl rfl (fun _ => by omega))
    apply Trace.pu [] (.len rfl Try.underlying22 (.plain rfl) rfl)
    apply Trace.pu [] (.assign (.plain rfl))
    exact .nil _
  · exact keepOK_of hk hn rfl
  apply WPA.seq
  apply WPA.region
  · apply Trace.pu [] (.move (.plain rfl))
    apply Trace.makeSlice 17 [] so46 by22 zo22 rfl (by decide) (.plain rfl) (.plain rfl) ⟨by omega, by omega⟩ (by omega) (by omega) rfl rfl
    apply Trace.pu [] (.assign (.plain rfl))
    exact .nil _
  · exact keepOK_of hk hn rfl
  apply WPA.seq
  apply WPA.seq
  refine WPA.ghost (Ghost.toAppv (l := 17) rfl (by simp)) ?_
  apply WPA.region
  · apply Trace.pu [] (.assign (.plain rfl))
    exact .nil _
  · exact keepOK_of hk hn rfl
  apply WPA.block
  refine WPA.loop (σ := Nat) (fun i => (sl 1, .av (.loc 1 0)) :: (sl 3, .av (iv .i64 (g.lat.length))) :: (sl 4, .av (.own 17 g.lat.length)) :: (sl 5, .av (iv .i64 (i))) :: (bk 1, .blk (.data g.ds)) :: (bk 17, .blk (.appv (cellsM g.lat.length i))) :: fam (Wm g.lat.length i)) (fun i => i ≤ g.lat.length) (fun i => g.lat.length - i) 0
    (St.le_cons rfl (St.le_cons rfl (St.le_cons rfl (St.le_cons rfl (St.le_cons rfl (St.le_cons (appv_eq (by simp [matC, cellsM])) ((St.le_nil _)))))))) (Nat.zero_le _) fun i hi => ?_
  apply WPA.seq
  apply WPA.seq
  apply WPA.region
  · apply Trace.pu [] (.move (.plain rfl))
    apply Trace.pu [] (.move (.plain rfl))
    apply Trace.pu [] (.cmp (.plain rfl) (.plain rfl) rfl)
    exact .nil _
  · exact keepOK_of hk hn rfl
  refine WPA.cond rfl (fun hc1 => ?_) (fun hc1 => ?_)
  · have hlt : i < g.lat.length := by simpa using hc1
    apply WPA.skip
    apply WPA.seq
    apply WPA.block
    apply WPA.seq
    apply WPA.region
    · apply Trace.pu [] (.move (.plain rfl))
      apply Trace.pu [] (.move (.plain rfl))
      apply Trace.pu [] (.move (.plain rfl))
      apply Trace.makeSlice 26 [] so22 by3 zo3 rfl (by decide) (.plain rfl) (.plain rfl) ⟨by omega, by omega⟩ (by omega) (by omega) rfl (freshB_of (fun l hl => by
          simp only [List.mem_singleton] at hl; subst hl
          repeat (first | exact nm_fam | refine nm_appv (cellsM_ment (by decide)) ?_ | refine nm_cons rfl ?_)))
      first | apply Trace.pu [] (.indexRows el46 (.plain rfl) (.plain rfl) (fun _ => ⟨by omega, by omega⟩)) | apply Trace.pu [] (.indexOwn el46 (.plain rfl) (.plain rfl) (fun _ => ⟨by omega, by omega⟩)) | apply Trace.pu [] (.indexSl el46 (.plain rfl) (.plain rfl) (fun _ => ⟨by omega, by omega⟩))
      apply Trace.storeRowV ty22 (.plain rfl) (.plain rfl) rfl rfl rfl (by rw [cellsM_length (by omega)]; simpa using hlt) rfl
      exact .nil _
    · exact keepOK_of hk hn rfl
    apply WPA.seq
    apply WPA.region
    · apply Trace.pu [] (.assign (.plain rfl))
      exact .nil _
    · exact keepOK_of hk hn rfl
    apply WPA.block
    refine WPA.loop (σ := Nat) (fun k => (sl 1, .av (.loc 1 0)) :: (sl 3, .av (iv .i64 (g.lat.length))) :: (sl 4, .av (.own 17 g.lat.length)) :: (sl 5, .av (iv .i64 (i))) :: (sl 6, .av (iv .i64 (k))) :: (bk 1, .blk (.data g.ds)) :: (bk 17, .blk (.appv ((cellsM g.lat.length i).set i (.own 26 g.lat.length)))) :: (bk 26, .blk (.app 1 g.lat.length [.ints .i64 (List.replicate k FAR ++ List.replicate (g.lat.length - k) 0)])) :: fam (Wm g.lat.length i)) (fun k => k ≤ g.lat.length) (fun k => g.lat.length - k) 0
      (St.le_cons rfl (St.le_cons rfl (St.le_cons rfl (St.le_cons rfl (St.le_cons rfl (St.le_cons rfl (St.le_cons rfl (St.le_cons (rowEq (by simp)) ((by repeat (first | exact St.le_refl _ | refine le_skip ?_ rfl))))))))))) (Nat.zero_le _) fun k hk2 => ?_
    apply WPA.seq
    apply WPA.seq
    apply WPA.region
    · apply Trace.pu [] (.move (.plain rfl))
      apply Trace.pu [] (.move (.plain rfl))
      apply Trace.pu [] (.cmp (.plain rfl) (.plain rfl) rfl)
      exact .nil _
    · exact keepOK_of hk hn rfl
    refine WPA.cond rfl (fun hc2 => ?_) (fun hc2 => ?_)
    · have hlt2 : k < g.lat.length := by simpa using hc2
      have hcell : ((cellsM g.lat.length i).set i (.own 26 g.lat.length))[((i : Nat) : Int).toNat]? = some (.own 26 g.lat.length) := by
        rw [Int.toNat_natCast, List.getElem?_set_self (by rw [cellsM_length (by omega)]; exact hlt)]
      apply WPA.skip
      apply WPA.seq
      apply WPA.block
      apply WPA.region
      · apply Trace.pu [] (.move (.plain rfl))
        apply Trace.pu [] (.move (.plain rfl))
        first | apply Trace.pu [] (.indexRows el46 (.plain rfl) (.plain rfl) (fun _ => ⟨by omega, by omega⟩)) | apply Trace.pu [] (.indexOwn el46 (.plain rfl) (.plain rfl) (fun _ => ⟨by omega, by omega⟩)) | apply Trace.pu [] (.indexSl el46 (.plain rfl) (.plain rfl) (fun _ => ⟨by omega, by omega⟩))
        apply Trace.pu [17] (.loadRowV ty22 (.plain rfl) rfl (fun _ => hcell))
        apply Trace.pu [] (.move (.plain rfl))
        first | apply Trace.pu [] (.indexRows el22 (.plain rfl) (.plain rfl) (fun _ => ⟨by omega, by omega⟩)) | apply Trace.pu [] (.indexOwn el22 (.plain rfl) (.plain rfl) (fun _ => ⟨by omega, by omega⟩)) | apply Trace.pu [] (.indexSl el22 (.plain rfl) (.plain rfl) (fun _ => ⟨by omega, by omega⟩))
        first | apply Trace.storeD ty3 (.plain rfl) (.plain rfl) rfl rfl rfl (by simp [AV.oneB, single]) (Nat.le_of_ble_eq_true rfl) rfl | apply Trace.storeDA ty3 (.plain rfl) (.plain rfl) rfl rfl rfl (by simp [AV.oneB, single]) (Nat.le_of_ble_eq_true rfl) rfl | apply Trace.storeLoc ty3 (.plain rfl) (.plain rfl) rfl rfl rfl (by simp [AV.oneB, single]) (Nat.le_of_ble_eq_true rfl) rfl | apply Trace.storeRow ty3 (.plain rfl) (.plain rfl) rfl rfl rfl rfl (by decide) (by simp [AV.oneB, single]) rfl (by omega)
        exact .nil _
      · exact keepOK_of hk hn rfl
      apply WPA.region
      · apply Trace.pu [] (.move (.plain rfl))
        apply Trace.pu [] (.arith (.plain rfl) (.plain rfl) rfl (fun _ => bd64 (by omega)))
        apply Trace.pu [] (.assign (.plain rfl))
        exact .nil _
      · exact keepOK_of hk hn rfl
      exact ⟨k + 1, by omega, by omega, St.le_cons rfl (St.le_cons rfl (St.le_cons rfl (St.le_cons rfl (St.le_cons (slI (by omega)) (St.le_cons rfl (St.le_cons rfl (St.le_cons (rowEq (rowSet hlt2)) ((by repeat (first | exact St.le_refl _ | refine le_skip ?_ rfl))))))))))⟩
    · apply WPA.exit
      have hkn : k = g.lat.length := by
        have : ¬ ((k : Int) < g.lat.length) := by simpa using hc2
        omega
      subst hkn
      have hcell : ((cellsM g.lat.length i).set i (.own 26 g.lat.length))[i]? = some (.own 26 g.lat.length) := List.getElem?_set_self (by rw [cellsM_length (by omega)]; exact hlt)
      refine WPA.weaken (T := (sl 1, .av (.loc 1 0)) :: (sl 3, .av (iv .i64 (g.lat.length))) :: (sl 4, .av (.own 17 g.lat.length)) :: (sl 5, .av (iv .i64 (i))) :: (bk 1, .blk (.data g.ds)) :: (bk 17, .blk (.appv ((cellsM g.lat.length i).set i (.own 26 g.lat.length)))) :: (bk 26, .blk (.app 1 g.lat.length [.ints .i64 (List.replicate g.lat.length FAR)])) :: fam (Wm g.lat.length i)) ?_ (St.le_cons rfl (St.le_cons rfl (St.le_cons rfl (St.le_cons rfl (St.le_cons rfl (St.le_cons rfl (St.le_cons (rowEq (by simp)) ((by repeat (first | exact St.le_refl _ | refine le_skip ?_ rfl))))))))))
      refine WPA.ghost (Ghost.alias' (L := 17) (i := i) (a := 26) (b := inn i) (S' := (sl 1, .av (.loc 1 0)) :: (sl 3, .av (iv .i64 (g.lat.length))) :: (sl 4, .av (.own 17 g.lat.length)) :: (sl 5, .av (iv .i64 (i))) :: (bk 1, .blk (.data g.ds)) :: fam (Wm g.lat.length i)) rfl hcell rfl (by decide) (by repeat (first | exact fam_out (by simp) | refine get_skip ?_ rfl)) (by repeat (first | exact nm_fam | refine nm_appv cellsM_out ?_ | refine nm_cons rfl ?_)) (by rw [hk]; simp) (St.le_cons rfl (St.le_cons rfl (St.le_cons rfl (St.le_cons rfl (St.le_cons rfl ((by repeat (first | exact St.le_refl _ | refine le_skip ?_ rfl)))))))) (fam_small (by decide))) ?_
      apply WPA.region
      · apply Trace.pu [] (.move (.plain rfl))
        apply Trace.pu [] (.arith (.plain rfl) (.plain rfl) rfl (fun _ => bd64 (by omega)))
        apply Trace.pu [] (.assign (.plain rfl))
        exact .nil _
      · exact keepOK_of hk hn rfl
      exact ⟨i + 1, by omega, by omega, St.le_cons rfl (St.le_cons rfl (St.le_cons rfl (St.le_cons (slI (by omega)) (St.le_cons rfl (St.le_cons (appv_eq (cellsM_succ hlt)) ((by repeat (first | exact le_pushM (by repeat (first | exact St.le_refl _ | refine le_skip ?_ rfl)) | refine le_skip ?_ rfl))))))))⟩
  · have hin : i = g.lat.length := by
      have : ¬ ((i : Int) < g.lat.length) := by simpa using hc1
      omega
    subst hin
    apply WPA.exit
    apply WPA.seq
    apply WPA.seq
    apply WPA.region
    · apply Trace.pu [] (.assign (.plain rfl))
      exact .nil _
    · exact keepOK_of hk hn rfl
    apply WPA.block
    refine WPA.loop (σ := Nat) (fun i => (sl 1, .av (.loc 1 0)) :: (sl 3, .av (iv .i64 (g.lat.length))) :: (sl 4, .av (.own 17 g.lat.length)) :: (sl 7, .av (iv .i64 (i))) :: (bk 1, .blk (.data g.ds)) :: (bk 17, .blk (.appv (matC (wayEs g i)))) :: fam (wayEs g i)) (fun i => i ≤ g.es.length) (fun i => g.es.length - i) 0
      (St.le_cons rfl (St.le_cons rfl (St.le_cons rfl (St.le_cons rfl (St.le_cons rfl (St.le_cons (appv_eq (by simp [cellsM]; rfl)) ((by repeat (first | exact St.le_refl _ | refine le_skip ?_ rfl))))))))) (Nat.zero_le _) fun i hi => ?_
    apply WPA.seq
    apply WPA.seq
    apply WPA.region
    · apply Trace.pu [] (.move (.plain rfl))
      apply Trace.pu [] (.fieldAddr fl25_1 (.plain rfl) rfl)
      first | apply Trace.pu [_] (.loadLoc1D ty23 (.plain rfl) rfl rfl) | apply Trace.pu [_] (.loadLoc1 ty23 (.plain rfl) rfl rfl) | apply Trace.pu [] (.loadRp1 ty23 (.plain rfl) rfl) | apply Trace.pu [_] (.loadCol1 ty23 (.plain rfl) rfl rfl rfl (fun _ => by omega))
      apply Trace.pu [] (.len rfl Try.underlying23 (.plain rfl) rfl)
      apply Trace.pu [] (.cmp (.plain rfl) (.plain rfl) rfl)
      exact .nil _
    · exact keepOK_of hk hn rfl
    refine WPA.cond rfl (fun hc3 => ?_) (fun hc3 => ?_)
    · have hlt3 : i < g.es.length := by simpa using hc3
      have hway := wayEs_ok hok i hi
      obtain ⟨e, he⟩ : ∃ e, g.es.getD i default = e := ⟨_, rfl⟩
      obtain ⟨hem, hef, het, hef0, het0⟩ := he ▸ Gr.edge hok hlt3
      have heb := hok.es e hem
      have hwt := g.wt_bd hok hem
      unfold Gr.wt at hwt
      have hfl : e.f.toNat < (wayEs g i).length := by rw [hway.sq.len]; exact hef
      have hrl := hway.sq.row _ hef
      have hwlo := hway.lo _ _ hef het
      have hwhi := hway.hi _ _ hef het
      have hcell := matC_get hfl
      apply WPA.skip
      apply WPA.seq
      apply WPA.block
      apply WPA.seq
      apply WPA.region
      · apply Trace.pu [] (.fieldAddr fl25_1 (.plain rfl) rfl)
        first | apply Trace.pu [_] (.loadLoc1D ty23 (.plain rfl) rfl rfl) | apply Trace.pu [_] (.loadLoc1 ty23 (.plain rfl) rfl rfl) | apply Trace.pu [] (.loadRp1 ty23 (.plain rfl) rfl) | apply Trace.pu [_] (.loadCol1 ty23 (.plain rfl) rfl rfl rfl (fun _ => by omega))
        apply Trace.pu [] (.move (.plain rfl))
        apply Trace.pu [] ((Pure.indexRows el23 (.plain rfl) (.plain rfl) (fun _ => ⟨by omega, by omega⟩)).to (y := .rp e.ds) (by show AV.rp (g.es.getD i default).ds = _; rw [he]))
        first | apply Trace.pu [_] (.loadAllD ty40 (.plain rfl) rfl (by simp)) | apply Trace.pu [_] (.loadLocD ty40 (.plain rfl) rfl (fun _ => by simp)) | apply Trace.pu [_] (.loadLoc ty40 (.plain rfl) rfl (fun _ => Nat.le_of_ble_eq_true rfl)) | apply Trace.pu [] (.loadRp ty40 (.plain rfl) (fun _ => by decide)) | apply Trace.pu [] (.loadRp ty40 (.plain rfl) (fun _ => Nat.le_of_ble_eq_true rfl)) | apply Trace.pu [_] (.loadCol ty40 (.plain rfl) rfl rfl (fun _ => by decide) (fun _ => by omega)) | apply Trace.pu [_] (.loadArr ty40 (.plain rfl) rfl)
        apply Trace.alloc 8 [] (.data _) zo40 (cellsAs_data _) (freshB_of (fun l hl => by
            simp only [List.mem_singleton] at hl; subst hl
            repeat (first | exact nm_fam | refine nm_appv (matC_ment (by decide)) ?_ | refine nm_cons rfl ?_)))
        first | apply Trace.storeD ty40 (.plain rfl) (.plain rfl) rfl rfl (by simp) (by simp [AV.oneB, single]) (by simp) (spliceL_all (by simp)) | apply Trace.storeD ty40 (.plain rfl) (.plain rfl) rfl rfl (by simp) (by simp [AV.oneB, single]) (by simp) rfl | apply Trace.storeDA ty40 (.plain rfl) (.plain rfl) rfl rfl (by simp) (by simp [AV.oneB, single]) (by simp) rfl | apply Trace.storeLoc ty40 (.plain rfl) (.plain rfl) rfl rfl (by simp) (by simp [AV.oneB, single]) (by simp) rfl | apply Trace.storeRow ty40 (.plain rfl) (.plain rfl) rfl rfl rfl rfl (by decide) (by simp [AV.oneB, single]) rfl (by omega)
        exact .nil _
      · exact keepOK_of hk hn rfl
      apply WPA.draw mixed
      · apply Trace.pu [] (.move (.plain rfl))
        apply Trace.pu [] (.fieldAddr fl40_0 (.plain rfl) rfl)
        first | apply Trace.pu [_] (.loadLoc1D ty3 (.plain rfl) rfl rfl) | apply Trace.pu [_] (.loadLoc1 ty3 (.plain rfl) rfl rfl) | apply Trace.pu [] (.loadRp1 ty3 (.plain rfl) rfl) | apply Trace.pu [_] (.loadCol1 ty3 (.plain rfl) rfl rfl rfl (fun _ => by omega))
        apply Trace.pu [] (.indexOwn el46 (.plain rfl) (.plain rfl) (fun _ => ⟨by omega, by omega⟩))
        apply Trace.pu [17] (.loadRowV ty22 (.plain rfl) rfl (fun _ => hcell))
        apply Trace.pu [] (.fieldAddr fl40_1 (.plain rfl) rfl)
        first | apply Trace.pu [_] (.loadLoc1D ty3 (.plain rfl) rfl rfl) | apply Trace.pu [_] (.loadLoc1 ty3 (.plain rfl) rfl rfl) | apply Trace.pu [] (.loadRp1 ty3 (.plain rfl) rfl) | apply Trace.pu [_] (.loadCol1 ty3 (.plain rfl) rfl rfl rfl (fun _ => by omega))
        apply Trace.pu [] (.move (.plain rfl))
        apply Trace.pu [] (.fieldAddr fl40_0 (.plain rfl) rfl)
        first | apply Trace.pu [_] (.loadLoc1D ty3 (.plain rfl) rfl rfl) | apply Trace.pu [_] (.loadLoc1 ty3 (.plain rfl) rfl rfl) | apply Trace.pu [] (.loadRp1 ty3 (.plain rfl) rfl) | apply Trace.pu [_] (.loadCol1 ty3 (.plain rfl) rfl rfl rfl (fun _ => by omega))
        first | apply Trace.pu [] (.indexRows el46 (.plain rfl) (.plain rfl) (fun _ => ⟨by omega, by omega⟩)) | apply Trace.pu [] (.indexOwn el46 (.plain rfl) (.plain rfl) (fun _ => ⟨by omega, by omega⟩)) | apply Trace.pu [] (.indexSl el46 (.plain rfl) (.plain rfl) (fun _ => ⟨by omega, by omega⟩))
        apply Trace.pu [17] (.loadRowV ty22 (.plain rfl) rfl (fun _ => hcell))
        apply Trace.pu [] (.fieldAddr fl40_1 (.plain rfl) rfl)
        first | apply Trace.pu [_] (.loadLoc1D ty3 (.plain rfl) rfl rfl) | apply Trace.pu [_] (.loadLoc1 ty3 (.plain rfl) rfl rfl) | apply Trace.pu [] (.loadRp1 ty3 (.plain rfl) rfl) | apply Trace.pu [_] (.loadCol1 ty3 (.plain rfl) rfl rfl rfl (fun _ => by omega))
        first | apply Trace.pu [] (.indexRows el22 (.plain rfl) (.plain rfl) (fun _ => ⟨by omega, by omega⟩)) | apply Trace.pu [] (.indexOwn el22 (.plain rfl) (.plain rfl) (fun _ => ⟨by omega, by omega⟩)) | apply Trace.pu [] (.indexSl el22 (.plain rfl) (.plain rfl) (fun _ => ⟨by omega, by omega⟩))
        apply Trace.pu [inn e.f.toNat] (.loadCol1 ty3 (.plain rfl) (by repeat (first | exact fam_get hfl | refine get_skip ?_ rfl)) rfl rfl (fun _ => by omega))
        apply Trace.pu [] (.fieldAddr fl40_3 (.plain rfl) rfl)
        first | apply Trace.pu [_] (.loadLoc1D ty3 (.plain rfl) rfl rfl) | apply Trace.pu [_] (.loadLoc1 ty3 (.plain rfl) rfl rfl) | apply Trace.pu [] (.loadRp1 ty3 (.plain rfl) rfl) | apply Trace.pu [_] (.loadCol1 ty3 (.plain rfl) rfl rfl rfl (fun _ => by omega))
        apply Trace.pu [] (.fieldAddr fl25_0 (.plain rfl) rfl)
        first | apply Trace.pu [_] (.loadLoc1D ty22 (.plain rfl) rfl rfl) | apply Trace.pu [_] (.loadLoc1 ty22 (.plain rfl) rfl rfl) | apply Trace.pu [] (.loadRp1 ty22 (.plain rfl) rfl) | apply Trace.pu [_] (.loadCol1 ty22 (.plain rfl) rfl rfl rfl (fun _ => by omega))
        apply Trace.pu [] (.fieldAddr fl40_0 (.plain rfl) rfl)
        first | apply Trace.pu [_] (.loadLoc1D ty3 (.plain rfl) rfl rfl) | apply Trace.pu [_] (.loadLoc1 ty3 (.plain rfl) rfl rfl) | apply Trace.pu [] (.loadRp1 ty3 (.plain rfl) rfl) | apply Trace.pu [_] (.loadCol1 ty3 (.plain rfl) rfl rfl rfl (fun _ => by omega))
        first | apply Trace.pu [] (.indexRows el22 (.plain rfl) (.plain rfl) (fun _ => ⟨by omega, by omega⟩)) | apply Trace.pu [] (.indexOwn el22 (.plain rfl) (.plain rfl) (fun _ => ⟨by omega, by omega⟩)) | apply Trace.pu [] (.indexSl el22 (.plain rfl) (.plain rfl) (fun _ => ⟨by omega, by omega⟩))
        first | apply Trace.pu [_] (.loadLoc1D ty3 (.plain rfl) rfl rfl) | apply Trace.pu [_] (.loadLoc1 ty3 (.plain rfl) rfl rfl) | apply Trace.pu [] (.loadRp1 ty3 (.plain rfl) rfl) | apply Trace.pu [_] (.loadCol1 ty3 (.plain rfl) rfl rfl rfl (fun _ => by omega))
        apply Trace.pu [] (.arith (.plain rfl) (.plain rfl) rfl (fun _ => bd64 (by omega)))
        apply Trace.pu [] (.min2 (.plain rfl) (.plain rfl))
        first | apply Trace.pu [] (.indexRows el22 (.plain rfl) (.plain rfl) (fun _ => ⟨by omega, by omega⟩)) | apply Trace.pu [] (.indexOwn el22 (.plain rfl) (.plain rfl) (fun _ => ⟨by omega, by omega⟩)) | apply Trace.pu [] (.indexSl el22 (.plain rfl) (.plain rfl) (fun _ => ⟨by omega, by omega⟩))
        apply Trace.storeRow ty3 (.plain rfl) (.plain rfl) (by repeat (first | exact fam_get hfl | refine get_skip ?_ rfl)) rfl rfl rfl (by decide) (by simp [AV.oneB, single]) rfl (by omega)
        exact .nil _
      · rfl
      · repeat (first | exact keepOK_nil | refine keepOK_cons (by first | exact axOK_of hk hn rfl | exact axOK_blk) ?_)
      apply WPA.region
      · apply Trace.pu [] (.move (.plain rfl))
        apply Trace.pu [] (.arith (.plain rfl) (.plain rfl) rfl (fun _ => bd64 (by omega)))
        apply Trace.pu [] (.assign (.plain rfl))
        exact .nil _
      · exact keepOK_of hk hn rfl
      have hnx : wayEs g (i + 1) = (wayEs g i).set e.f.toNat (((wayEs g i).getD e.f.toNat []).set e.t.toNat (min (((wayEs g i).getD e.f.toNat []).getD e.t.toNat 0) (e.d - g.lat.getD e.f.toNat 0))) := by
        rw [wayEs_succ]; unfold wayE mset; simp only [he]; rfl
      refine ⟨i + 1, by omega, by omega, ?_⟩
      rw [hnx]
      exact (St.le_cons rfl (St.le_cons rfl (St.le_cons rfl (St.le_cons (slI (by omega)) (St.le_cons rfl (St.le_cons (appv_eq (matC_set (by simp))) ((by repeat (first | exact le_row (by repeat (first | exact St.le_refl _ | refine le_skip ?_ rfl)) hfl (by simp) | refine le_skip ?_ rfl)))))))))
    · have hin2 : i = g.es.length := by
        have : ¬ ((i : Int) < g.es.length) := by simpa using hc3
        omega
      subst hin2
      apply WPA.exit
      apply WPA.seq
      apply WPA.seq
      apply WPA.region
      · apply Trace.pu [] (.assign (.plain rfl))
        exact .nil _
      · exact keepOK_of hk hn rfl
      apply WPA.block
      refine WPA.loop (σ := Nat) (fun m => (sl 1, .av (.loc 1 0)) :: (sl 3, .av (iv .i64 (g.lat.length))) :: (sl 4, .av (.own 17 g.lat.length)) :: (sl 9, .av (iv .i64 (m))) :: (bk 1, .blk (.data g.ds)) :: (bk 17, .blk (.appv (matC (fwM g m)))) :: fam (fwM g m)) (fun m => m ≤ g.lat.length) (fun m => g.lat.length - m) 0
        (St.le_cons rfl (St.le_cons rfl (St.le_cons rfl (St.le_cons rfl (St.le_cons rfl (St.le_cons rfl ((by repeat (first | exact St.le_refl _ | refine le_skip ?_ rfl))))))))) (Nat.zero_le _) fun m hm => ?_
      apply WPA.seq
      apply WPA.seq
      apply WPA.region
      · apply Trace.pu [] (.move (.plain rfl))
        apply Trace.pu [] (.move (.plain rfl))
        apply Trace.pu [] (.cmp (.plain rfl) (.plain rfl) rfl)
        exact .nil _
      · exact keepOK_of hk hn rfl
      refine WPA.cond rfl (fun hc4 => ?_) (fun hc4 => ?_)
      · have hml : m < g.lat.length := by simpa using hc4
        have hwM := fwM_ok hok m
        apply WPA.skip
        apply WPA.seq
        apply WPA.block
        apply WPA.seq
        apply WPA.region
        · apply Trace.pu [] (.assign (.plain rfl))
          exact .nil _
        · exact keepOK_of hk hn rfl
        apply WPA.block
        refine WPA.loop (σ := Nat) (fun i => (sl 1, .av (.loc 1 0)) :: (sl 3, .av (iv .i64 (g.lat.length))) :: (sl 4, .av (.own 17 g.lat.length)) :: (sl 9, .av (iv .i64 (m))) :: (sl 10, .av (iv .i64 (i))) :: (bk 1, .blk (.data g.ds)) :: (bk 17, .blk (.appv (matC (fwI g.lat.length m (fwM g m) i)))) :: fam (fwI g.lat.length m (fwM g m) i)) (fun i => i ≤ g.lat.length) (fun i => g.lat.length - i) 0
          (St.le_cons rfl (St.le_cons rfl (St.le_cons rfl (St.le_cons rfl (St.le_cons rfl (St.le_cons rfl (St.le_cons rfl ((by repeat (first | exact St.le_refl _ | refine le_skip ?_ rfl)))))))))) (Nat.zero_le _) fun i hi5 => ?_
        apply WPA.seq
        apply WPA.seq
        apply WPA.region
        · apply Trace.pu [] (.move (.plain rfl))
          apply Trace.pu [] (.move (.plain rfl))
          apply Trace.pu [] (.cmp (.plain rfl) (.plain rfl) rfl)
          exact .nil _
        · exact keepOK_of hk hn rfl
        refine WPA.cond rfl (fun hc5 => ?_) (fun hc5 => ?_)
        · have hil : i < g.lat.length := by simpa using hc5
          have hwI := fwI_ok (m := m) hwM i hi5
          apply WPA.skip
          apply WPA.seq
          apply WPA.block
          apply WPA.seq
          apply WPA.region
          · apply Trace.pu [] (.assign (.plain rfl))
            exact .nil _
          · exact keepOK_of hk hn rfl
          apply WPA.block
          refine WPA.loop (σ := Nat) (fun k => (sl 1, .av (.loc 1 0)) :: (sl 3, .av (iv .i64 (g.lat.length))) :: (sl 4, .av (.own 17 g.lat.length)) :: (sl 9, .av (iv .i64 (m))) :: (sl 10, .av (iv .i64 (i))) :: (sl 11, .av (iv .i64 (k))) :: (bk 1, .blk (.data g.ds)) :: (bk 17, .blk (.appv (matC (fwK m i (fwI g.lat.length m (fwM g m) i) k)))) :: fam (fwK m i (fwI g.lat.length m (fwM g m) i) k)) (fun k => k ≤ g.lat.length) (fun k => g.lat.length - k) 0
            (St.le_cons rfl (St.le_cons rfl (St.le_cons rfl (St.le_cons rfl (St.le_cons rfl (St.le_cons rfl (St.le_cons rfl (St.le_cons rfl ((by repeat (first | exact St.le_refl _ | refine le_skip ?_ rfl))))))))))) (Nat.zero_le _) fun k hk6 => ?_
          apply WPA.seq
          apply WPA.seq
          apply WPA.region
          · apply Trace.pu [] (.move (.plain rfl))
            apply Trace.pu [] (.move (.plain rfl))
            apply Trace.pu [] (.cmp (.plain rfl) (.plain rfl) rfl)
            exact .nil _
          · exact keepOK_of hk hn rfl
          refine WPA.cond rfl (fun hc6 => ?_) (fun hc6 => ?_)
          · have hkl : k < g.lat.length := by simpa using hc6
            obtain ⟨w, hw⟩ : ∃ w, fwK m i (fwI g.lat.length m (fwM g m) i) k = w := ⟨_, rfl⟩
            have hww : Way g.lat.length w := hw ▸ fwK_ok hwI hil k hk6
            have hnx : fwK m i (fwI g.lat.length m (fwM g m) i) (k + 1) = fw1 m i w k := by rw [fwK_succ, hw]
            rw [hw]
            have hli : i < w.length := by rw [hww.sq.len]; exact hil
            have hlm : m < w.length := by rw [hww.sq.len]; exact hml
            have hri := hww.sq.row i hil
            have hrm := hww.sq.row m hml
            have hci := matC_get hli
            have hcm := matC_get hlm
            have h1lo := hww.lo i m hil hml
            have h1hi := hww.hi i m hil hml
            have h2lo := hww.lo m k hml hkl
            have h2hi := hww.hi m k hml hkl
            have h3lo := hww.lo i k hil hkl
            have h3hi := hww.hi i k hil hkl
            apply WPA.skip
            apply WPA.seq
            apply WPA.block
            apply WPA.seq
            apply WPA.region
            · apply Trace.pu [] (.move (.plain rfl))
              apply Trace.pu [] (.move (.plain rfl))
              first | apply Trace.pu [] (.indexRows el46 (.plain rfl) (.plain rfl) (fun _ => ⟨by omega, by omega⟩)) | apply Trace.pu [] (.indexOwn el46 (.plain rfl) (.plain rfl) (fun _ => ⟨by omega, by omega⟩)) | apply Trace.pu [] (.indexSl el46 (.plain rfl) (.plain rfl) (fun _ => ⟨by omega, by omega⟩))
              apply Trace.pu [17] (.loadRowV ty22 (.plain rfl) rfl (fun _ => hci))
              apply Trace.pu [] (.move (.plain rfl))
              first | apply Trace.pu [] (.indexRows el22 (.plain rfl) (.plain rfl) (fun _ => ⟨by omega, by omega⟩)) | apply Trace.pu [] (.indexOwn el22 (.plain rfl) (.plain rfl) (fun _ => ⟨by omega, by omega⟩)) | apply Trace.pu [] (.indexSl el22 (.plain rfl) (.plain rfl) (fun _ => ⟨by omega, by omega⟩))
              apply Trace.pu [inn i] (.loadCol1 ty3 (.plain rfl) (by repeat (first | exact fam_get hli | refine get_skip ?_ rfl)) rfl rfl (fun _ => by omega))
              apply Trace.pu [] (.cmp (.plain rfl) (.plain rfl) rfl)
              apply Trace.pu [] (.move (.plain rfl))
              apply Trace.pg [] rfl (.move (.plain rfl))
              apply Trace.pg [] rfl (.move (.plain rfl))
              first | apply Trace.pg [] rfl (.indexRows el46 (.gd rfl (fun h => h)) (.gd rfl (fun h => h)) (fun _ => ⟨by omega, by omega⟩)) | apply Trace.pg [] rfl (.indexOwn el46 (.gd rfl (fun h => h)) (.gd rfl (fun h => h)) (fun _ => ⟨by omega, by omega⟩)) | apply Trace.pg [] rfl (.indexSl el46 (.gd rfl (fun h => h)) (.gd rfl (fun h => h)) (fun _ => ⟨by omega, by omega⟩))
              apply Trace.pg [17] rfl (.loadRowV ty22 (.gd rfl (fun h => h)) rfl (fun _ => hcm))
              apply Trace.pg [] rfl (.move (.plain rfl))
              first | apply Trace.pg [] rfl (.indexRows el22 (.gd rfl (fun h => h)) (.gd rfl (fun h => h)) (fun _ => ⟨by omega, by omega⟩)) | apply Trace.pg [] rfl (.indexOwn el22 (.gd rfl (fun h => h)) (.gd rfl (fun h => h)) (fun _ => ⟨by omega, by omega⟩)) | apply Trace.pg [] rfl (.indexSl el22 (.gd rfl (fun h => h)) (.gd rfl (fun h => h)) (fun _ => ⟨by omega, by omega⟩))
              apply Trace.pg [inn m] rfl (.loadCol1 ty3 (.gd rfl (fun h => h)) (by repeat (first | exact fam_get hlm | refine get_skip ?_ rfl)) rfl rfl (fun _ => by omega))
              apply Trace.pg [] rfl (.cmp (.gd rfl (fun h => h)) (.plain rfl) rfl)
              apply Trace.pu [] (.pick (.plain rfl) (.gd rfl (by simp)) (.plain rfl))
              exact .nil _
            · exact keepOK_of hk hn rfl
            refine WPA.cond rfl (fun hc7 => ?_) (fun hc7 => ?_)
            · have g1lo : -1099511627776 ≤ (w.getD i []).getD ((m : Nat) : Int).toNat 0 := h1lo
              have g1hi : (w.getD i []).getD ((m : Nat) : Int).toNat 0 ≤ 1099511627776 := h1hi
              have g2lo : -1099511627776 ≤ (w.getD m []).getD ((k : Nat) : Int).toNat 0 := h2lo
              have g2hi : (w.getD m []).getD ((k : Nat) : Int).toNat 0 ≤ 1099511627776 := h2hi
              have hA : wa w i m < FAR ∧ wa w m k < FAR := by
                have h9 : (bif decide (wa w i m < FAR) then decide (wa w m k < FAR) else false) = true := hc7
                cases ha : decide (wa w i m < FAR) with
                | true => rw [ha] at h9; exact ⟨of_decide_eq_true ha, of_decide_eq_true h9⟩
                | false => rw [ha] at h9; cases h9
              have hnx2 : fwK m i (fwI g.lat.length m (fwM g m) i) (k + 1) = w.set i ((w.getD i []).set k (max (-FAR) (min (wa w i k) (wa w i m + wa w m k)))) := by rw [hnx]; unfold fw1; rw [if_pos hA]; rfl
              refine WPA.weaken (T := (sl 1, .av (.loc 1 0)) :: (sl 3, .av (iv .i64 (g.lat.length))) :: (sl 4, .av (.own 17 g.lat.length)) :: (sl 9, .av (iv .i64 (m))) :: (sl 10, .av (iv .i64 (i))) :: (sl 11, .av (iv .i64 (k))) :: (bk 1, .blk (.data g.ds)) :: (bk 17, .blk (.appv (matC w))) :: fam w) ?_ (St.le_cons rfl (St.le_cons rfl (St.le_cons rfl (St.le_cons rfl (St.le_cons rfl (St.le_cons rfl (St.le_cons rfl (St.le_cons rfl ((by repeat (first | exact St.le_refl _ | refine le_skip ?_ rfl)))))))))))
              apply WPA.draw mixed
              · apply Trace.pu [] (.move (.plain rfl))
                apply Trace.pu [] (.move (.plain rfl))
                first | apply Trace.pu [] (.indexRows el46 (.plain rfl) (.plain rfl) (fun _ => ⟨by omega, by omega⟩)) | apply Trace.pu [] (.indexOwn el46 (.plain rfl) (.plain rfl) (fun _ => ⟨by omega, by omega⟩)) | apply Trace.pu [] (.indexSl el46 (.plain rfl) (.plain rfl) (fun _ => ⟨by omega, by omega⟩))
                apply Trace.pu [17] (.loadRowV ty22 (.plain rfl) rfl (fun _ => hci))
                apply Trace.pu [] (.move (.plain rfl))
                apply Trace.pu [] (.move (.plain rfl))
                apply Trace.pu [] (.move (.plain rfl))
                first | apply Trace.pu [] (.indexRows el46 (.plain rfl) (.plain rfl) (fun _ => ⟨by omega, by omega⟩)) | apply Trace.pu [] (.indexOwn el46 (.plain rfl) (.plain rfl) (fun _ => ⟨by omega, by omega⟩)) | apply Trace.pu [] (.indexSl el46 (.plain rfl) (.plain rfl) (fun _ => ⟨by omega, by omega⟩))
                apply Trace.pu [17] (.loadRowV ty22 (.plain rfl) rfl (fun _ => hci))
                apply Trace.pu [] (.move (.plain rfl))
                first | apply Trace.pu [] (.indexRows el22 (.plain rfl) (.plain rfl) (fun _ => ⟨by omega, by omega⟩)) | apply Trace.pu [] (.indexOwn el22 (.plain rfl) (.plain rfl) (fun _ => ⟨by omega, by omega⟩)) | apply Trace.pu [] (.indexSl el22 (.plain rfl) (.plain rfl) (fun _ => ⟨by omega, by omega⟩))
                apply Trace.pu [inn i] (.loadCol1 ty3 (.plain rfl) (by repeat (first | exact fam_get hli | refine get_skip ?_ rfl)) rfl rfl (fun _ => by omega))
                apply Trace.pu [] (.move (.plain rfl))
                apply Trace.pu [] (.move (.plain rfl))
                first | apply Trace.pu [] (.indexRows el46 (.plain rfl) (.plain rfl) (fun _ => ⟨by omega, by omega⟩)) | apply Trace.pu [] (.indexOwn el46 (.plain rfl) (.plain rfl) (fun _ => ⟨by omega, by omega⟩)) | apply Trace.pu [] (.indexSl el46 (.plain rfl) (.plain rfl) (fun _ => ⟨by omega, by omega⟩))
                apply Trace.pu [17] (.loadRowV ty22 (.plain rfl) rfl (fun _ => hci))
                apply Trace.pu [] (.move (.plain rfl))
                first | apply Trace.pu [] (.indexRows el22 (.plain rfl) (.plain rfl) (fun _ => ⟨by omega, by omega⟩)) | apply Trace.pu [] (.indexOwn el22 (.plain rfl) (.plain rfl) (fun _ => ⟨by omega, by omega⟩)) | apply Trace.pu [] (.indexSl el22 (.plain rfl) (.plain rfl) (fun _ => ⟨by omega, by omega⟩))
                apply Trace.pu [inn i] (.loadCol1 ty3 (.plain rfl) (by repeat (first | exact fam_get hli | refine get_skip ?_ rfl)) rfl rfl (fun _ => by omega))
                apply Trace.pu [] (.move (.plain rfl))
                apply Trace.pu [] (.move (.plain rfl))
                first | apply Trace.pu [] (.indexRows el46 (.plain rfl) (.plain rfl) (fun _ => ⟨by omega, by omega⟩)) | apply Trace.pu [] (.indexOwn el46 (.plain rfl) (.plain rfl) (fun _ => ⟨by omega, by omega⟩)) | apply Trace.pu [] (.indexSl el46 (.plain rfl) (.plain rfl) (fun _ => ⟨by omega, by omega⟩))
                apply Trace.pu [17] (.loadRowV ty22 (.plain rfl) rfl (fun _ => hcm))
                apply Trace.pu [] (.move (.plain rfl))
                first | apply Trace.pu [] (.indexRows el22 (.plain rfl) (.plain rfl) (fun _ => ⟨by omega, by omega⟩)) | apply Trace.pu [] (.indexOwn el22 (.plain rfl) (.plain rfl) (fun _ => ⟨by omega, by omega⟩)) | apply Trace.pu [] (.indexSl el22 (.plain rfl) (.plain rfl) (fun _ => ⟨by omega, by omega⟩))
                apply Trace.pu [inn m] (.loadCol1 ty3 (.plain rfl) (by repeat (first | exact fam_get hlm | refine get_skip ?_ rfl)) rfl rfl (fun _ => by omega))
                apply Trace.pu [] (.arith (.plain rfl) (.plain rfl) rfl (fun _ => bd64 (by omega)))
                apply Trace.pu [] (.min2 (.plain rfl) (.plain rfl))
                apply Trace.pu [] (.max2 (.plain rfl) (.plain rfl))
                first | apply Trace.pu [] (.indexRows el22 (.plain rfl) (.plain rfl) (fun _ => ⟨by omega, by omega⟩)) | apply Trace.pu [] (.indexOwn el22 (.plain rfl) (.plain rfl) (fun _ => ⟨by omega, by omega⟩)) | apply Trace.pu [] (.indexSl el22 (.plain rfl) (.plain rfl) (fun _ => ⟨by omega, by omega⟩))
                apply Trace.storeRow ty3 (.plain rfl) (.plain rfl) (by repeat (first | exact fam_get hli | refine get_skip ?_ rfl)) rfl rfl rfl (by decide) (by simp [AV.oneB, single]) rfl (by omega)
                exact .nil _
              · rfl
              · repeat (first | exact keepOK_nil | refine keepOK_cons (by first | exact axOK_of hk hn rfl | exact axOK_blk) ?_)
              apply WPA.region
              · apply Trace.pu [] (.move (.plain rfl))
                apply Trace.pu [] (.arith (.plain rfl) (.plain rfl) rfl (fun _ => bd64 (by omega)))
                apply Trace.pu [] (.assign (.plain rfl))
                exact .nil _
              · exact keepOK_of hk hn rfl
              refine ⟨k + 1, by omega, by omega, ?_⟩
              rw [hnx2]
              first
                | exact (St.le_cons rfl (St.le_cons rfl (St.le_cons rfl (St.le_cons rfl (St.le_cons rfl (St.le_cons (slI (by omega)) (St.le_cons rfl (St.le_cons rfl ((by repeat (first | exact St.le_refl _ | refine le_skip ?_ rfl)))))))))))
                | exact (St.le_cons rfl (St.le_cons rfl (St.le_cons rfl (St.le_cons rfl (St.le_cons rfl (St.le_cons (slI (by omega)) (St.le_cons rfl (St.le_cons (appv_eq (matC_set (by simp))) ((by repeat (first | exact le_row (by repeat (first | exact St.le_refl _ | refine le_skip ?_ rfl)) hli (by simp) | refine le_skip ?_ rfl)))))))))))
            · have hA : ¬ (wa w i m < FAR ∧ wa w m k < FAR) := by
                rintro ⟨a, b⟩
                have h9 : (bif decide (wa w i m < FAR) then decide (wa w m k < FAR) else false) = false := hc7
                rw [decide_eq_true a, decide_eq_true b] at h9; cases h9
              have hnx2 : fwK m i (fwI g.lat.length m (fwM g m) i) (k + 1) = w := by rw [hnx]; unfold fw1; rw [if_neg hA]
              apply WPA.skip
              apply WPA.region
              · apply Trace.pu [] (.move (.plain rfl))
                apply Trace.pu [] (.arith (.plain rfl) (.plain rfl) rfl (fun _ => bd64 (by omega)))
                apply Trace.pu [] (.assign (.plain rfl))
                exact .nil _
              · exact keepOK_of hk hn rfl
              refine ⟨k + 1, by omega, by omega, ?_⟩
              rw [hnx2]
              first
                | exact (St.le_cons rfl (St.le_cons rfl (St.le_cons rfl (St.le_cons rfl (St.le_cons rfl (St.le_cons (slI (by omega)) (St.le_cons rfl (St.le_cons rfl ((by repeat (first | exact St.le_refl _ | refine le_skip ?_ rfl)))))))))))
                | exact (St.le_cons rfl (St.le_cons rfl (St.le_cons rfl (St.le_cons rfl (St.le_cons rfl (St.le_cons (slI (by omega)) (St.le_cons rfl (St.le_cons (appv_eq (matC_set (by simp))) ((by repeat (first | exact le_row (by repeat (first | exact St.le_refl _ | refine le_skip ?_ rfl)) hli (by simp) | refine le_skip ?_ rfl)))))))))))
          · have hkn : k = g.lat.length := by
              have : ¬ ((k : Int) < g.lat.length) := by simpa using hc6
              omega
            subst hkn
            apply WPA.exit
            apply WPA.region
            · apply Trace.pu [] (.move (.plain rfl))
              apply Trace.pu [] (.arith (.plain rfl) (.plain rfl) rfl (fun _ => bd64 (by omega)))
              apply Trace.pu [] (.assign (.plain rfl))
              exact .nil _
            · exact keepOK_of hk hn rfl
            refine ⟨i + 1, by omega, by omega, ?_⟩
            rw [fwI_succ]
            exact (St.le_cons rfl (St.le_cons rfl (St.le_cons rfl (St.le_cons rfl (St.le_cons (slI (by omega)) (St.le_cons rfl (St.le_cons rfl ((by repeat (first | exact St.le_refl _ | refine le_skip ?_ rfl))))))))))
        · have hin5 : i = g.lat.length := by
            have : ¬ ((i : Int) < g.lat.length) := by simpa using hc5
            omega
          subst hin5
          apply WPA.exit
          apply WPA.region
          · apply Trace.pu [] (.move (.plain rfl))
            apply Trace.pu [] (.arith (.plain rfl) (.plain rfl) rfl (fun _ => bd64 (by omega)))
            apply Trace.pu [] (.assign (.plain rfl))
            exact .nil _
          · exact keepOK_of hk hn rfl
          refine ⟨m + 1, by omega, by omega, ?_⟩
          rw [fwM_succ]
          exact (St.le_cons rfl (St.le_cons rfl (St.le_cons rfl (St.le_cons (slI (by omega)) (St.le_cons rfl (St.le_cons rfl ((by repeat (first | exact St.le_refl _ | refine le_skip ?_ rfl)))))))))
      · have hmn : m = g.lat.length := by
          have : ¬ ((m : Int) < g.lat.length) := by simpa using hc4
          omega
        subst hmn
        have hwM := fwM_ok hok g.lat.length
        apply WPA.exit
        apply WPA.seq
        apply WPA.seq
        apply WPA.region
        · apply Trace.pu [] (.assign (.plain rfl))
          exact .nil _
        · exact keepOK_of hk hn rfl
        apply WPA.block
        refine WPA.loop (σ := Nat) (fun j => (sl 1, .av (.loc 1 0)) :: (sl 3, .av (iv .i64 (g.lat.length))) :: (sl 4, .av (.own 17 g.lat.length)) :: (sl 12, .av (iv .i64 (j))) :: (bk 17, .blk (.appv (matC (fwM g g.lat.length)))) :: fam (fwM g g.lat.length)) (fun j => j ≤ g.lat.length ∧ ∀ x, x < j → ¬ (wa (fwM g g.lat.length) x x ≤ 0)) (fun j => g.lat.length - j) 0
          (St.le_cons rfl (St.le_cons rfl (St.le_cons rfl (St.le_cons rfl (St.le_cons rfl ((by repeat (first | exact St.le_refl _ | refine le_skip ?_ rfl)))))))) ⟨Nat.zero_le _, fun x h => by omega⟩ fun j hj => ?_
        apply WPA.seq
        apply WPA.seq
        apply WPA.region
        · apply Trace.pu [] (.move (.plain rfl))
          apply Trace.pu [] (.move (.plain rfl))
          apply Trace.pu [] (.cmp (.plain rfl) (.plain rfl) rfl)
          exact .nil _
        · exact keepOK_of hk hn rfl
        refine WPA.cond rfl (fun hc8 => ?_) (fun hc8 => ?_)
        · have hjl : j < g.lat.length := by simpa using hc8
          have hlj : j < (fwM g g.lat.length).length := by rw [hwM.sq.len]; exact hjl
          have hrj := hwM.sq.row j hjl
          have hcj := matC_get hlj
          apply WPA.skip
          apply WPA.seq
          apply WPA.block
          apply WPA.seq
          apply WPA.region
          · apply Trace.pu [] (.move (.plain rfl))
            apply Trace.pu [] (.move (.plain rfl))
            first | apply Trace.pu [] (.indexRows el46 (.plain rfl) (.plain rfl) (fun _ => ⟨by omega, by omega⟩)) | apply Trace.pu [] (.indexOwn el46 (.plain rfl) (.plain rfl) (fun _ => ⟨by omega, by omega⟩)) | apply Trace.pu [] (.indexSl el46 (.plain rfl) (.plain rfl) (fun _ => ⟨by omega, by omega⟩))
            apply Trace.pu [17] (.loadRowV ty22 (.plain rfl) rfl (fun _ => hcj))
            apply Trace.pu [] (.move (.plain rfl))
            first | apply Trace.pu [] (.indexRows el22 (.plain rfl) (.plain rfl) (fun _ => ⟨by omega, by omega⟩)) | apply Trace.pu [] (.indexOwn el22 (.plain rfl) (.plain rfl) (fun _ => ⟨by omega, by omega⟩)) | apply Trace.pu [] (.indexSl el22 (.plain rfl) (.plain rfl) (fun _ => ⟨by omega, by omega⟩))
            apply Trace.pu [inn j] (.loadCol1 ty3 (.plain rfl) (by repeat (first | exact fam_get hlj | refine get_skip ?_ rfl)) rfl rfl (fun _ => by omega))
            apply Trace.pu [] (.cmp (.plain rfl) (.plain rfl) rfl)
            exact .nil _
          · exact keepOK_of hk hn rfl
          refine WPA.cond rfl (fun hc9 => ?_) (fun hc9 => ?_)
          · apply WPA.seq
            apply WPA.region
            · apply Trace.pu [] (.assign (.plain rfl))
              exact .nil _
            · exact keepOK_of hk hn rfl
            apply WPA.ret
            refine ⟨.inr rfl, ⟨_, (.cons (.tmp rfl) .nil), ?_⟩, by simp [St.get]⟩
            have hw0 : wa (fwM g g.lat.length) j j ≤ 0 := of_decide_eq_true hc9
            have hs : g.short = true := by
              unfold Gr.short
              rw [List.any_eq_true]
              exact ⟨j, by simpa using hjl, decide_eq_true hw0⟩
            rw [hs]
            rfl
          · apply WPA.skip
            apply WPA.region
            · apply Trace.pu [] (.move (.plain rfl))
              apply Trace.pu [] (.arith (.plain rfl) (.plain rfl) rfl (fun _ => bd64 (by omega)))
              apply Trace.pu [] (.assign (.plain rfl))
              exact .nil _
            · exact keepOK_of hk hn rfl
            have hw0 : ¬ (wa (fwM g g.lat.length) j j ≤ 0) := of_decide_eq_false hc9
            exact ⟨j + 1, ⟨by omega, fun x hx => by
              by_cases hxj : x = j
              · rw [hxj]; exact hw0
              · exact hj.2 x (by omega)⟩, by omega, (St.le_cons rfl (St.le_cons rfl (St.le_cons rfl (St.le_cons (slI (by omega)) (St.le_cons rfl ((by repeat (first | exact St.le_refl _ | refine le_skip ?_ rfl))))))))⟩
        · apply WPA.exit
          apply WPA.seq
          apply WPA.region
          · apply Trace.pu [] (.assign (.plain rfl))
            exact .nil _
          · exact keepOK_of hk hn rfl
          apply WPA.ret
          refine ⟨.inr rfl, ⟨_, (.cons (.tmp rfl) .nil), ?_⟩, by simp [St.get]⟩
          have hjn : j = g.lat.length := by
            have : ¬ ((j : Int) < g.lat.length) := by simpa using hc8
            omega
          subst hjn
          have hs : g.short = false := by
            unfold Gr.short
            rw [List.any_eq_false]
            exact fun x hx => by simpa using hj.2 x (by simpa using hx)
          rw [hs]
          rfl

end Go.Proofs.Ytcnikeonaklkoaa

