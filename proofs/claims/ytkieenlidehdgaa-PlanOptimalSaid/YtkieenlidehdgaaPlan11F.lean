/- The main theorem; signals meet; a declared delay that grows. -/
import Derived.Test.YtkieenlidehdgaaPlan10F
import Derived.Test.YtkieenlidehdgaaGraphOpen
namespace Go.Proofs.Ytkieenlidehdgaa
open Go
set_option linter.unusedVariables false
set_option linter.unusedSimpArgs false
set_option maxRecDepth 10000
set_option maxHeartbeats 1000000

theorem memTo_mem (g : Gr) (l : List Int) : g.memTo l g.es.length = g.mem (fn l) := rfl
theorem memory_230 {g : Gr} (hc : g.check = 0) {l : List Int} (h : (g.memory l).2 ≠ 0) : (g.memory l).2 = 230 := by
  unfold Gr.memory at *
  rw [if_neg (by rw [hc]; decide)] at h ⊢
  split
  · rename_i h2; rw [if_pos h2] at h; exact absurd rfl h
  · rfl
theorem delTo_at (g : Gr) (l : List Int) {i k : Nat} (hk : k < i) : (g.delTo l i).getD k 0 = g.sl (fn l) k := by
  rw [getD_lt _ _ (by rw [delTo_len]; exact hk)]
  simp [Gr.delTo]
/-- Where a walk has come to. -/
def Wlk (g : Gr) (P : List Int) (a f s : Int) : Prop := (a = -1 ∧ s = 0) ∨ (0 ≤ a ∧ a.toNat < g.lat.length ∧ 0 ≤ f ∧ f.toNat < g.lat.length ∧ s = P.getD a.toNat 0 - P.getD f.toNat 0)
theorem tmodN (x : Int) (k m : Nat) (h0 : 0 ≤ x) (hb : x ≤ 1000) (hk : k ≤ 1000) (hm : 0 < m) : (x + (k : Int)).tmod (m : Int) = (((x.toNat + k) % m : Nat) : Int) := by
  obtain ⟨n, rfl⟩ : ∃ n : Nat, x = (n : Int) := ⟨x.toNat, by omega⟩
  have e : (((n : Nat) : Int) + (k : Int)).tmod (m : Int) = (((n + k) % m : Nat) : Int) := by
    rw [Int.tmod_eq_emod_of_nonneg (by omega)]
    norm_cast
  rw [e, Int.toNat_natCast]
/-- A graph, one edge's declared delay greater. -/
def Gr.grown (g : Gr) (i : Nat) (d : Int) : Gr := ⟨g.lat, g.es.set i { g.ed i with d := (g.ed i).d + d }⟩
theorem grown_ed (g : Gr) (i : Nat) (d : Int) (hi : i < g.es.length) (k : Nat) : (g.grown i d).ed k = if i = k then { g.ed i with d := (g.ed i).d + d } else g.ed k := by
  show (g.es.set i { g.ed i with d := (g.ed i).d + d }).getD k default = _
  simp only [List.getD_eq_getElem?_getD, List.getElem?_set]
  by_cases e : i = k
  · subst e; simp [hi]
  · simp [e, Gr.ed, List.getD_eq_getElem?_getD]
theorem grown_len (g : Gr) (i : Nat) (d : Int) : (g.grown i d).es.length = g.es.length := by simp [Gr.grown]
theorem grown_sl (g : Gr) (i : Nat) (d : Int) (hi : i < g.es.length) (p : Nat → Int) (k : Nat) : (g.grown i d).sl p k = g.sl p k + if i = k then d else 0 := by
  have e : (g.grown i d).lat = g.lat := rfl
  unfold Gr.sl
  rw [grown_ed g i d hi k, e]
  by_cases h : i = k
  · subst h; simp only [if_true]; omega
  · simp only [if_neg h]; omega
theorem grown_feas {g : Gr} {i : Nat} {d : Int} (hi : i < g.es.length) (hd : 0 ≤ d) {p : Nat → Int} (h : Feas g p) : Feas (g.grown i d) p :=
  ⟨h.pos, fun k hk => by rw [grown_len] at hk; rw [grown_sl g i d hi]; have := h.sl k hk; split <;> omega⟩
theorem grown_mem {g : Gr} {i : Nat} {d : Int} (hi : i < g.es.length) (p : Nat → Int) : (g.grown i d).mem p = g.mem p + d * (g.ed i).w := by
  have hw : ∀ k, ((g.grown i d).ed k).w = (g.ed k).w := fun k => by
    rw [grown_ed g i d hi k]
    by_cases h : i = k
    · subst h; simp
    · simp [h]
  have key : ∀ k, sm k (fun j => (g.grown i d).sl p j * ((g.grown i d).ed j).w) = sm k (fun j => g.sl p j * (g.ed j).w) + if i < k then d * (g.ed i).w else 0 := by
    intro k
    induction k with
    | zero => simp [sm]
    | succ k ih =>
      show sm k (fun j => (g.grown i d).sl p j * ((g.grown i d).ed j).w) + (g.grown i d).sl p k * ((g.grown i d).ed k).w = (sm k (fun j => g.sl p j * (g.ed j).w) + g.sl p k * (g.ed k).w) + _
      rw [ih, grown_sl g i d hi, hw]
      by_cases e : i = k
      · subst e
        rw [if_neg (Nat.lt_irrefl _), if_pos rfl, if_pos (by omega), Int.add_mul]; omega
      · rw [if_neg e]
        by_cases h : i < k
        · rw [if_pos h, if_pos (by omega)]; simp only [Int.add_zero]; omega
        · rw [if_neg h, if_neg (by omega)]; simp only [Int.add_zero]
  unfold Gr.mem
  rw [grown_len, key, if_pos hi]
abbrev edgCols (l : List Edg) : List Col := [.ds (l.map fun e => .v (.int .i64 e.f)), .ds (l.map fun e => .v (.int .i64 e.t)), .ds (l.map fun e => .v (.int .i64 e.w)), .ds (l.map fun e => .v (.int .i64 e.d))]
abbrev edgColsI (l : List Edg) : List Col := [.ints .i64 (l.map (·.f)), .ints .i64 (l.map (·.t)), .ints .i64 (l.map (·.w)), .ints .i64 (l.map (·.d))]
theorem col4 {n m : Nat} {cs ds : List Col} (hn : n = m) (h : cs = ds) : some (Cont.blk (.app 4 n cs)) = some (Cont.blk (.app 4 m ds)) := by rw [hn, h]
theorem joinedE (l : List Edg) : joined (colsFrom 4 0 []) (edgColsI l) = edgCols l := by
  show [Col.ds ([] ++ (l.map (·.f)).map fun m => .v (.int .i64 m)), Col.ds ([] ++ (l.map (·.t)).map fun m => .v (.int .i64 m)), Col.ds ([] ++ (l.map (·.w)).map fun m => .v (.int .i64 m)), Col.ds ([] ++ (l.map (·.d)).map fun m => .v (.int .i64 m))] = _
  simp only [List.nil_append, List.map_map]
  rfl
theorem edg_row {l : List Edg} {i : Nat} (hi : i < l.length) : (edgCols l).map (Col.at · i) = (l.getD i default).ds := by
  simp only [edgCols, List.map_cons, List.map_nil, Col.at]
  rw [getD_map' _ _ default _ hi, getD_map' _ _ default _ hi, getD_map' _ _ default _ hi, getD_map' _ _ default _ hi]
theorem edg_rowI {l : List Edg} {i : Nat} (hi : i < l.length) : (edgColsI l).map (Col.at · i) = (l.getD i default).ds := by
  simp only [edgColsI, List.map_cons, List.map_nil, Col.at]
  rw [getD_map' _ _ default _ hi, getD_map' _ _ default _ hi, getD_map' _ _ default _ hi, getD_map' _ _ default _ hi]
/-- soundpost/soundpostlaw23.PlanOptimal -/
theorem spec5 (g : Gr) (hz : g.Sz) (at_ : List Int) (ha : at_.length ≤ 4611686018427387904) : FnSpec Try.prog 5 [g.av, .d (intsD at_)] [] (bv true) [] [] := by
  have hn1 := hz.n
  have hn2 := hz.m
  refine fnSpec_of (rs := [.tmp 4]) Try.func5 rfl rfl (Nat.le_of_ble_eq_true rfl) (by simp [St.get]) fun E hk hn => ?_
  apply WPA.seq
  apply WPA.region
  · first | apply Trace.boxD 2 [] (.plain rfl) rfl rfl | apply Trace.box 2 [] (.plain rfl) rfl rfl rfl
    apply Trace.pu [] (.assign (.plain rfl))
    exact .nil _
  · exact keepOK_of hk hn rfl
  apply WPA.seq
  apply WPA.seq
  apply WPA.region
  · apply Trace.cu (callArgs0 .nil) spec10 en10
    apply Trace.pu [] (.not (.plain rfl))
    exact .nil _
  · exact keepOK_of hk hn rfl
  refine WPA.cond rfl (fun hc1 => ?_) (fun hc1 => ?_)
  · cases hc1
  · apply WPA.skip
    apply WPA.seq
    apply WPA.seq
    apply WPA.region
    · first | apply Trace.pu [_] (.loadAllD ty25 (.plain rfl) rfl (by simp)) | apply Trace.pu [_] (.loadLocD ty25 (.plain rfl) rfl (fun _ => by simp)) | apply Trace.pu [_] (.loadLoc ty25 (.plain rfl) rfl (fun _ => Nat.le_of_ble_eq_true rfl)) | apply Trace.pu [] (.loadRp ty25 (.plain rfl) (fun _ => by decide)) | apply Trace.pu [] (.loadRp ty25 (.plain rfl) (fun _ => Nat.le_of_ble_eq_true rfl)) | apply Trace.pu [_] (.loadCol ty25 (.plain rfl) rfl rfl (fun _ => by decide) (fun _ => by omega)) | apply Trace.pu [_] (.loadArr ty25 (.plain rfl) rfl)
      apply Trace.cu (callArgs0 (.cons (.plain rfl) .nil)) (spec11 g hz) en11
      apply Trace.pu [] (.not (.plain rfl))
      apply Trace.pu [] (.move (.plain rfl))
      apply Trace.pg [] rfl (.move (.plain rfl))
      apply Trace.pg [] rfl (.len rfl Try.underlying22 (.gd rfl (fun h => h)) rfl)
      apply Trace.pg [] rfl (.cmp (.gd rfl (fun h => h)) (.plain rfl) rfl)
      apply Trace.pu [] (.pick (.plain rfl) (.plain rfl) (.gd rfl (by simp)))
      exact .nil _
    · exact keepOK_of hk hn rfl
    refine WPA.cond rfl (fun hc2 => ?_) (fun hc2 => ?_)
    · apply WPA.seq
      apply WPA.region
      · apply Trace.pu [] (.assign (.plain rfl))
        exact .nil _
      · exact keepOK_of hk hn rfl
      apply WPA.ret
      refine ⟨.inr rfl, ⟨_, (.cons (.tmp rfl) .nil), ?_⟩, by simp [St.get]⟩
      rfl
    · obtain ⟨hsome, hlen⟩ : g.some = true ∧ at_.length ≤ 100 := by
        have h9 : (bif !g.some then true else decide ((100 : Int) < at_.length)) = false := hc2
        rw [bif_or, Bool.or_eq_false_iff, Bool.not_eq_false', decide_eq_false_iff_not] at h9
        exact ⟨h9.1, by omega⟩
      have ht := tiny_of hsome
      apply WPA.skip
      apply WPA.seq
      apply WPA.seq
      apply WPA.region
      · first | apply Trace.pu [_] (.loadAllD ty25 (.plain rfl) rfl (by simp)) | apply Trace.pu [_] (.loadLocD ty25 (.plain rfl) rfl (fun _ => by simp)) | apply Trace.pu [_] (.loadLoc ty25 (.plain rfl) rfl (fun _ => Nat.le_of_ble_eq_true rfl)) | apply Trace.pu [] (.loadRp ty25 (.plain rfl) (fun _ => by decide)) | apply Trace.pu [] (.loadRp ty25 (.plain rfl) (fun _ => Nat.le_of_ble_eq_true rfl)) | apply Trace.pu [_] (.loadCol ty25 (.plain rfl) rfl rfl (fun _ => by decide) (fun _ => by omega)) | apply Trace.pu [_] (.loadArr ty25 (.plain rfl) rfl)
        apply Trace.cu (callArgs0 (.cons (.plain rfl) .nil)) (spec21 g hz) en21
        apply Trace.pu [] (.assign (.plain rfl))
        exact .nil _
      · exact keepOK_of hk hn rfl
      apply WPA.seq
      apply WPA.region
      · apply Trace.pu [] (.move (.plain rfl))
        apply Trace.pu [] (.cmp (.plain rfl) (.plain rfl) rfl)
        exact .nil _
      · exact keepOK_of hk hn rfl
      refine WPA.cond rfl (fun hc3 => ?_) (fun hc3 => ?_)
      · have hC : g.check ≠ 0 := by simpa using hc3
        have hM : g.makeP = (Pl.none, g.check) := by unfold Gr.makeP; rw [if_pos hC]
        apply WPA.seq
        apply WPA.region
        · first | apply Trace.pu [_] (.loadAllD ty25 (.plain rfl) rfl (by simp)) | apply Trace.pu [_] (.loadLocD ty25 (.plain rfl) rfl (fun _ => by simp)) | apply Trace.pu [_] (.loadLoc ty25 (.plain rfl) rfl (fun _ => Nat.le_of_ble_eq_true rfl)) | apply Trace.pu [] (.loadRp ty25 (.plain rfl) (fun _ => by decide)) | apply Trace.pu [] (.loadRp ty25 (.plain rfl) (fun _ => Nat.le_of_ble_eq_true rfl)) | apply Trace.pu [_] (.loadCol ty25 (.plain rfl) rfl rfl (fun _ => by decide) (fun _ => by omega)) | apply Trace.pu [_] (.loadArr ty25 (.plain rfl) rfl)
          apply Trace.ct (callArgs0 (.cons (.plain rfl) .nil)) (makeN hz (fun h => absurd h hC) hM) en19
          apply Trace.pu [] (.move (.plain rfl))
          apply Trace.pu [] (.extract (.plain rfl) rfl)
          apply Trace.pu [] (.extract (.plain rfl) rfl)
          apply Trace.alloc 6 [] (.data _) zo32 (cellsAs_data _) rfl
          first | apply Trace.storeD ty32 (.plain rfl) (.plain rfl) rfl rfl (by simp) (by simp [AV.oneB, single, intsD, rowsD]) (by simp) (spliceL_all (by simp)) | apply Trace.storeD ty32 (.plain rfl) (.plain rfl) rfl rfl (by simp) (by simp [AV.oneB, single, intsD, rowsD]) (by simp) rfl | apply Trace.storeDA ty32 (.plain rfl) (.plain rfl) rfl rfl (by simp) (by simp [AV.oneB, single]) (by simp) rfl | apply Trace.storeLoc ty32 (.plain rfl) (.plain rfl) rfl rfl (by simp) (by simp [AV.oneB, single]) (by simp) rfl | apply Trace.storeRow ty32 (.plain rfl) (.plain rfl) rfl rfl rfl rfl (by decide) (by simp [AV.oneB, single]) rfl (by omega)
          apply Trace.pu [] (.assign (.plain rfl))
          exact .nil _
        · exact keepOK_of hk hn rfl
        apply WPA.seq
        apply WPA.region
        · apply Trace.pu [] (.move (.plain rfl))
          apply Trace.pu [] (.move (.plain rfl))
          apply Trace.pu [] ((Pure.cmp (.plain rfl) (.plain rfl) rfl).to (y := bv true) (congrArg bv (decide_eq_true rfl)))
          apply Trace.pu [] (.move (.plain rfl))
          apply Trace.pg [] rfl (.fieldAddr fl32_0 (.plain rfl) rfl)
          first | apply Trace.pg [_] rfl (.loadLoc1D ty22 (.gd rfl (fun h => h)) rfl rfl) | apply Trace.pg [_] rfl (.loadLoc1 ty22 (.gd rfl (fun h => h)) rfl rfl) | apply Trace.pg [] rfl (.loadRp1 ty22 (.gd rfl (fun h => h)) rfl) | apply Trace.pg [_] rfl (.loadCol1 ty22 (.gd rfl (fun h => h)) rfl rfl rfl (fun _ => by omega))
          apply Trace.pg [] rfl (.len rfl Try.underlying22 (.gd rfl (fun h => h)) rfl)
          apply Trace.pg [] rfl (.cmp (.gd rfl (fun h => h)) (.plain rfl) rfl)
          apply Trace.pu [] (.pick (.plain rfl) (.gd rfl (by simp)) (.plain rfl))
          apply Trace.pu [] (.assign (.plain rfl))
          exact .nil _
        · exact keepOK_of hk hn rfl
        apply WPA.ret
        refine ⟨.inr rfl, ⟨_, (.cons (.tmp rfl) .nil), ?_⟩, by simp [St.get]⟩
        rfl
      · have hC : g.check = 0 := by simpa using hc3
        have hok := g.ok_of (check_formed hC)
        have hsh := check_short hC
        obtain ⟨_, _, hB⟩ := best_mk hok hsh
        have hL := low_spec hok hsh
        have hlp := low_posB hok hsh ht
        have hbl := hB.len
        have hll := hL.len
        have hle : ¬ (g.memTo g.low g.es.length < g.memTo g.best g.es.length) := by
          have := hB.min _ hL.feas
          rw [memTo_mem, memTo_mem]; omega
        apply WPA.skip
        apply WPA.seq
        apply WPA.region
        · first | apply Trace.pu [_] (.loadAllD ty25 (.plain rfl) rfl (by simp)) | apply Trace.pu [_] (.loadLocD ty25 (.plain rfl) rfl (fun _ => by simp)) | apply Trace.pu [_] (.loadLoc ty25 (.plain rfl) rfl (fun _ => Nat.le_of_ble_eq_true rfl)) | apply Trace.pu [] (.loadRp ty25 (.plain rfl) (fun _ => by decide)) | apply Trace.pu [] (.loadRp ty25 (.plain rfl) (fun _ => Nat.le_of_ble_eq_true rfl)) | apply Trace.pu [_] (.loadCol ty25 (.plain rfl) rfl rfl (fun _ => by decide) (fun _ => by omega)) | apply Trace.pu [_] (.loadArr ty25 (.plain rfl) rfl)
          apply Trace.ct (callArgs0 (.cons (.plain rfl) .nil)) (spec22 hz hC ht) en22
          apply Trace.pu [] (.move (.plain rfl))
          apply Trace.pu [] (.extract (.plain rfl) rfl)
          apply Trace.pu [] (.extract (.plain rfl) rfl)
          apply Trace.alloc 8 [] (.data _) zo32 (cellsAs_data _) rfl
          first | apply Trace.storeD ty32 (.plain rfl) (.plain rfl) rfl rfl (by simp) (by simp [AV.oneB, single, intsD, rowsD]) (by simp) (spliceL_all (by simp)) | apply Trace.storeD ty32 (.plain rfl) (.plain rfl) rfl rfl (by simp) (by simp [AV.oneB, single, intsD, rowsD]) (by simp) rfl | apply Trace.storeDA ty32 (.plain rfl) (.plain rfl) rfl rfl (by simp) (by simp [AV.oneB, single]) (by simp) rfl | apply Trace.storeLoc ty32 (.plain rfl) (.plain rfl) rfl rfl (by simp) (by simp [AV.oneB, single]) (by simp) rfl | apply Trace.storeRow ty32 (.plain rfl) (.plain rfl) rfl rfl rfl rfl (by decide) (by simp [AV.oneB, single]) rfl (by omega)
          apply Trace.pu [] (.assign (.plain rfl))
          exact .nil _
        · exact keepOK_of hk hn rfl
        apply WPA.seq
        apply WPA.region
        · first | apply Trace.pu [_] (.loadAllD ty25 (.plain rfl) rfl (by simp)) | apply Trace.pu [_] (.loadLocD ty25 (.plain rfl) rfl (fun _ => by simp)) | apply Trace.pu [_] (.loadLoc ty25 (.plain rfl) rfl (fun _ => Nat.le_of_ble_eq_true rfl)) | apply Trace.pu [] (.loadRp ty25 (.plain rfl) (fun _ => by decide)) | apply Trace.pu [] (.loadRp ty25 (.plain rfl) (fun _ => Nat.le_of_ble_eq_true rfl)) | apply Trace.pu [_] (.loadCol ty25 (.plain rfl) rfl rfl (fun _ => by decide) (fun _ => by omega)) | apply Trace.pu [_] (.loadArr ty25 (.plain rfl) rfl)
          apply Trace.ct (callArgs0 (.cons (.plain rfl) .nil)) (leastN hz (least_of hC rfl)) en12
          apply Trace.pu [] (.move (.plain rfl))
          apply Trace.pu [] (.extract (.plain rfl) rfl)
          apply Trace.pu [] (.extract (.plain rfl) rfl)
          apply Trace.pu [] (.assign (.plain rfl))
          apply Trace.pu [] (.assign (.plain rfl))
          exact .nil _
        · exact keepOK_of hk hn rfl
        apply WPA.seq
        apply WPA.region
        · first | apply Trace.pu [_] (.loadAllD ty25 (.plain rfl) rfl (by simp)) | apply Trace.pu [_] (.loadLocD ty25 (.plain rfl) rfl (fun _ => by simp)) | apply Trace.pu [_] (.loadLoc ty25 (.plain rfl) rfl (fun _ => Nat.le_of_ble_eq_true rfl)) | apply Trace.pu [] (.loadRp ty25 (.plain rfl) (fun _ => by decide)) | apply Trace.pu [] (.loadRp ty25 (.plain rfl) (fun _ => Nat.le_of_ble_eq_true rfl)) | apply Trace.pu [_] (.loadCol ty25 (.plain rfl) rfl rfl (fun _ => by decide) (fun _ => by omega)) | apply Trace.pu [_] (.loadArr ty25 (.plain rfl) rfl)
          apply Trace.pu [] (.move (.plain rfl))
          apply Trace.ct (callArgs0 (.cons (.plain rfl) (.cons (.plain rfl) .nil))) (memN hz (at_ := g.low) (by have := ht.n; omega) (mem_pos hC hlp)) en14
          apply Trace.pu [] (.move (.plain rfl))
          apply Trace.pu [] (.extract (.plain rfl) rfl)
          apply Trace.pu [] (.extract (.plain rfl) rfl)
          apply Trace.alloc 12 [] (.data _) zo32 (cellsAs_data _) rfl
          first | apply Trace.storeD ty32 (.plain rfl) (.plain rfl) rfl rfl (by simp) (by simp [AV.oneB, single, intsD, rowsD]) (by simp) (spliceL_all (by simp)) | apply Trace.storeD ty32 (.plain rfl) (.plain rfl) rfl rfl (by simp) (by simp [AV.oneB, single, intsD, rowsD]) (by simp) rfl | apply Trace.storeDA ty32 (.plain rfl) (.plain rfl) rfl rfl (by simp) (by simp [AV.oneB, single]) (by simp) rfl | apply Trace.storeLoc ty32 (.plain rfl) (.plain rfl) rfl rfl (by simp) (by simp [AV.oneB, single]) (by simp) rfl | apply Trace.storeRow ty32 (.plain rfl) (.plain rfl) rfl rfl rfl rfl (by decide) (by simp [AV.oneB, single]) rfl (by omega)
          apply Trace.pu [] (.assign (.plain rfl))
          exact .nil _
        · exact keepOK_of hk hn rfl
        apply WPA.seq
        apply WPA.seq
        apply WPA.region
        · apply Trace.pu [] (.move (.plain rfl))
          apply Trace.pu [] (.not (.plain rfl))
          apply Trace.pu [] (.move (.plain rfl))
          apply Trace.pg [] rfl (.move (.plain rfl))
          apply Trace.pg [] rfl (.cmp (.gd rfl (fun h => h)) (.plain rfl) rfl)
          apply Trace.pu [] (.pick (.plain rfl) (.plain rfl) (.gd rfl (by simp)))
          apply Trace.pu [] (.move (.plain rfl))
          apply Trace.pg [] rfl (.move (.plain rfl))
          apply Trace.pg [] rfl (.cmp (.gd rfl (fun h => h)) (.plain rfl) rfl)
          apply Trace.pu [] (.pick (.plain rfl) (.plain rfl) (.gd rfl (by simp)))
          apply Trace.pu [] (.move (.plain rfl))
          apply Trace.pg [] rfl (.fieldAddr fl32_2 (.plain rfl) rfl)
          first | apply Trace.pg [_] rfl (.loadLoc1D ty3 (.gd rfl (fun h => h)) rfl rfl) | apply Trace.pg [_] rfl (.loadLoc1 ty3 (.gd rfl (fun h => h)) rfl rfl) | apply Trace.pg [] rfl (.loadRp1 ty3 (.gd rfl (fun h => h)) rfl) | apply Trace.pg [_] rfl (.loadCol1 ty3 (.gd rfl (fun h => h)) rfl rfl rfl (fun _ => by omega))
          apply Trace.pg [] rfl (.fieldAddr fl32_2 (.plain rfl) rfl)
          first | apply Trace.pg [_] rfl (.loadLoc1D ty3 (.gd rfl (fun h => h)) rfl rfl) | apply Trace.pg [_] rfl (.loadLoc1 ty3 (.gd rfl (fun h => h)) rfl rfl) | apply Trace.pg [] rfl (.loadRp1 ty3 (.gd rfl (fun h => h)) rfl) | apply Trace.pg [_] rfl (.loadCol1 ty3 (.gd rfl (fun h => h)) rfl rfl rfl (fun _ => by omega))
          apply Trace.pg [] rfl ((Pure.cmp (.gd rfl (fun h => h)) (.gd rfl (fun h => h)) rfl).to (y := bv false) (congrArg bv (decide_eq_false hle)))
          apply Trace.pu [] (.pick (.plain rfl) (.plain rfl) (.gd rfl (by simp)))
          exact .nil _
        · exact keepOK_of hk hn rfl
        refine WPA.cond rfl (fun hc4 => ?_) (fun hc4 => ?_)
        · cases hc4
        · apply WPA.skip
          apply WPA.seq
          apply WPA.region
          · first | apply Trace.pu [_] (.loadAllD ty25 (.plain rfl) rfl (by simp)) | apply Trace.pu [_] (.loadLocD ty25 (.plain rfl) rfl (fun _ => by simp)) | apply Trace.pu [_] (.loadLoc ty25 (.plain rfl) rfl (fun _ => Nat.le_of_ble_eq_true rfl)) | apply Trace.pu [] (.loadRp ty25 (.plain rfl) (fun _ => by decide)) | apply Trace.pu [] (.loadRp ty25 (.plain rfl) (fun _ => Nat.le_of_ble_eq_true rfl)) | apply Trace.pu [_] (.loadCol ty25 (.plain rfl) rfl rfl (fun _ => by decide) (fun _ => by omega)) | apply Trace.pu [_] (.loadArr ty25 (.plain rfl) rfl)
            apply Trace.pu [] (.move (.plain rfl))
            apply Trace.ct (callArgs0 (.cons (.plain rfl) (.cons (.plain rfl) .nil))) (memN hz (at_ := at_) (by omega) (p := (g.memory at_).1) (c := (g.memory at_).2) rfl) en14
            apply Trace.pu [] (.move (.plain rfl))
            apply Trace.pu [] (.extract (.plain rfl) rfl)
            apply Trace.pu [] (.extract (.plain rfl) rfl)
            apply Trace.alloc 14 [] (.data _) zo32 (cellsAs_data _) rfl
            first | apply Trace.storeD ty32 (.plain rfl) (.plain rfl) rfl rfl (by simp) (by simp [AV.oneB, single, intsD, rowsD]) (by simp) (spliceL_all (by simp)) | apply Trace.storeD ty32 (.plain rfl) (.plain rfl) rfl rfl (by simp) (by simp [AV.oneB, single, intsD, rowsD]) (by simp) rfl | apply Trace.storeDA ty32 (.plain rfl) (.plain rfl) rfl rfl (by simp) (by simp [AV.oneB, single]) (by simp) rfl | apply Trace.storeLoc ty32 (.plain rfl) (.plain rfl) rfl rfl (by simp) (by simp [AV.oneB, single]) (by simp) rfl | apply Trace.storeRow ty32 (.plain rfl) (.plain rfl) rfl rfl rfl rfl (by decide) (by simp [AV.oneB, single]) rfl (by omega)
            apply Trace.pu [] (.assign (.plain rfl))
            exact .nil _
          · exact keepOK_of hk hn rfl
          apply WPA.seq
          apply WPA.seq
          apply WPA.region
          · apply Trace.pu [] (.move (.plain rfl))
            apply Trace.pu [] (.cmp (.plain rfl) (.plain rfl) rfl)
            exact .nil _
          · exact keepOK_of hk hn rfl
          refine WPA.cond rfl (fun hc5 => ?_) (fun hc5 => ?_)
          · have hE : (g.memory at_).2 ≠ 0 := by simpa using hc5
            have hE2 := memory_230 hC hE
            apply WPA.seq
            apply WPA.region
            · apply Trace.pu [] (.move (.plain rfl))
              apply Trace.pu [] ((Pure.cmp (.plain rfl) (.plain rfl) rfl).to (y := bv true) (congrArg bv (decide_eq_true hE2)))
              apply Trace.pu [] (.assign (.plain rfl))
              exact .nil _
            · exact keepOK_of hk hn rfl
            apply WPA.ret
            refine ⟨.inr rfl, ⟨_, (.cons (.tmp rfl) .nil), ?_⟩, by simp [St.get]⟩
            rfl
          · have hE : (g.memory at_).2 = 0 := by simpa using hc5
            obtain ⟨_, hP, hM⟩ := memory_ok hE
            rw [hM]
            obtain ⟨hp1, hp2, hp3⟩ := posB_iff hP
            have hmin : ¬ (g.memTo at_ g.es.length < g.memTo g.best g.es.length) := by
              have := hB.min _ hp2
              rw [memTo_mem, memTo_mem]; omega
            apply WPA.skip
            apply WPA.seq
            apply WPA.seq
            apply WPA.region
            · apply Trace.pu [] (.fieldAddr fl32_2 (.plain rfl) rfl)
              first | apply Trace.pu [_] (.loadLoc1D ty3 (.plain rfl) rfl rfl) | apply Trace.pu [_] (.loadLoc1 ty3 (.plain rfl) rfl rfl) | apply Trace.pu [] (.loadRp1 ty3 (.plain rfl) rfl) | apply Trace.pu [_] (.loadCol1 ty3 (.plain rfl) rfl rfl rfl (fun _ => by omega))
              apply Trace.pu [] (.fieldAddr fl32_2 (.plain rfl) rfl)
              first | apply Trace.pu [_] (.loadLoc1D ty3 (.plain rfl) rfl rfl) | apply Trace.pu [_] (.loadLoc1 ty3 (.plain rfl) rfl rfl) | apply Trace.pu [] (.loadRp1 ty3 (.plain rfl) rfl) | apply Trace.pu [_] (.loadCol1 ty3 (.plain rfl) rfl rfl rfl (fun _ => by omega))
              apply Trace.pu [] ((Pure.cmp (.plain rfl) (.plain rfl) rfl).to (y := bv false) (congrArg bv (decide_eq_false hmin)))
              apply Trace.pu [] (.move (.plain rfl))
              apply Trace.pg [] rfl (.fieldAddr fl32_0 (.plain rfl) rfl)
              first | apply Trace.pg [_] rfl (.loadLoc1D ty22 (.gd rfl (fun h => h)) rfl rfl) | apply Trace.pg [_] rfl (.loadLoc1 ty22 (.gd rfl (fun h => h)) rfl rfl) | apply Trace.pg [] rfl (.loadRp1 ty22 (.gd rfl (fun h => h)) rfl) | apply Trace.pg [_] rfl (.loadCol1 ty22 (.gd rfl (fun h => h)) rfl rfl rfl (fun _ => by omega))
              apply Trace.pg [] rfl (.len rfl Try.underlying22 (.gd rfl (fun h => h)) rfl)
              apply Trace.pg [] rfl (.fieldAddr fl32_0 (.plain rfl) rfl)
              first | apply Trace.pg [_] rfl (.loadLoc1D ty22 (.gd rfl (fun h => h)) rfl rfl) | apply Trace.pg [_] rfl (.loadLoc1 ty22 (.gd rfl (fun h => h)) rfl rfl) | apply Trace.pg [] rfl (.loadRp1 ty22 (.gd rfl (fun h => h)) rfl) | apply Trace.pg [_] rfl (.loadCol1 ty22 (.gd rfl (fun h => h)) rfl rfl rfl (fun _ => by omega))
              apply Trace.pg [] rfl (.len rfl Try.underlying22 (.gd rfl (fun h => h)) rfl)
              apply Trace.pg [] rfl ((Pure.cmp (.gd rfl (fun h => h)) (.gd rfl (fun h => h)) rfl).to (y := bv false) (congrArg bv (by show (!decide (((at_.length : Nat) : Int) = ((g.best.length : Nat) : Int))) = false; rw [decide_eq_true (by omega)]; rfl)))
              apply Trace.pu [] (.pick (.plain rfl) (.plain rfl) (.gd rfl (by simp)))
              apply Trace.pu [] (.move (.plain rfl))
              apply Trace.pg [] rfl (.move (.plain rfl))
              apply Trace.pg [] rfl (.len rfl Try.underlying22 (.gd rfl (fun h => h)) rfl)
              apply Trace.pg [] rfl (.fieldAddr fl32_0 (.plain rfl) rfl)
              first | apply Trace.pg [_] rfl (.loadLoc1D ty22 (.gd rfl (fun h => h)) rfl rfl) | apply Trace.pg [_] rfl (.loadLoc1 ty22 (.gd rfl (fun h => h)) rfl rfl) | apply Trace.pg [] rfl (.loadRp1 ty22 (.gd rfl (fun h => h)) rfl) | apply Trace.pg [_] rfl (.loadCol1 ty22 (.gd rfl (fun h => h)) rfl rfl rfl (fun _ => by omega))
              apply Trace.pg [] rfl (.len rfl Try.underlying22 (.gd rfl (fun h => h)) rfl)
              apply Trace.pg [] rfl ((Pure.cmp (.gd rfl (fun h => h)) (.gd rfl (fun h => h)) rfl).to (y := bv false) (congrArg bv (by show (!decide (((g.low.length : Nat) : Int) = ((g.best.length : Nat) : Int))) = false; rw [decide_eq_true (by omega)]; rfl)))
              apply Trace.pu [] (.pick (.plain rfl) (.plain rfl) (.gd rfl (by simp)))
              exact .nil _
            · exact keepOK_of hk hn rfl
            refine WPA.cond rfl (fun hc6 => ?_) (fun hc6 => ?_)
            · cases hc6
            · apply WPA.skip
              apply WPA.seq
              apply WPA.seq
              apply WPA.region
              · apply Trace.pu [] (.fieldAddr fl32_0 (.plain rfl) rfl)
                first | apply Trace.pu [_] (.loadLoc1D ty22 (.plain rfl) rfl rfl) | apply Trace.pu [_] (.loadLoc1 ty22 (.plain rfl) rfl rfl) | apply Trace.pu [] (.loadRp1 ty22 (.plain rfl) rfl) | apply Trace.pu [_] (.loadCol1 ty22 (.plain rfl) rfl rfl rfl (fun _ => by omega))
                apply Trace.pu [] (.len rfl Try.underlying22 (.plain rfl) rfl)
                apply Trace.pu [] (.move (.plain rfl))
                exact .nil _
              · exact keepOK_of hk hn rfl
              apply WPA.block
              refine WPA.loop (σ := Nat) (fun i => [(sl 2, .av (.loc 2 0)), (sl 8, .av (.loc 8 0)), (sl 10, .av (.d (intsD g.low))), (sl 14, .av (.loc 14 0)), (sl 111, .av (iv .i64 (g.best.length))), (sl 112, .av (iv .i64 (i))), (bk 2, .blk (.data g.ds)), (bk 8, .blk (.data (g.planOf g.best).ds)), (bk 14, .blk (.data (g.planOf at_).ds))]) (fun i => i ≤ g.best.length) (fun i => g.best.length - i) 0
                (St.le_cons rfl (St.le_cons rfl (St.le_cons rfl (St.le_cons rfl (St.le_cons rfl (St.le_cons rfl (St.le_cons rfl (St.le_cons rfl (St.le_cons rfl (St.le_nil _)))))))))) (Nat.zero_le _) fun i hi => ?_
              apply WPA.seq
              apply WPA.region
              · apply Trace.pu [] (.cmp (.plain rfl) (.plain rfl) rfl)
                exact .nil _
              · exact keepOK_of hk hn rfl
              apply WPA.seq
              refine WPA.cond rfl (fun hc7 => ?_) (fun hc7 => ?_)
              · have hlt : i < g.best.length := by simpa using hc7
                have h1 : ¬ (at_.getD i 0 < g.low.getD i 0) := by have := hL.least _ hp2 i (by omega); unfold fn at this; omega
                have h2 : ¬ (g.best.getD i 0 < g.low.getD i 0) := by have := hL.least _ hB.feas i (by omega); unfold fn at this; omega
                have q1 : (g.planOf at_).at_.length = at_.length := rfl
                have q2 : (g.planOf g.best).at_.length = g.best.length := rfl
                apply WPA.skip
                apply WPA.seq
                apply WPA.block
                apply WPA.seq
                apply WPA.region
                · apply Trace.pu [] (.move (.plain rfl))
                  apply Trace.pu [] (.assign (.plain rfl))
                  exact .nil _
                · exact keepOK_of hk hn rfl
                apply WPA.seq
                apply WPA.draw mixed
                · apply Trace.pu [] (.fieldAddr fl32_0 (.plain rfl) rfl)
                  first | apply Trace.pu [_] (.loadLoc1D ty22 (.plain rfl) rfl rfl) | apply Trace.pu [_] (.loadLoc1 ty22 (.plain rfl) rfl rfl) | apply Trace.pu [] (.loadRp1 ty22 (.plain rfl) rfl) | apply Trace.pu [_] (.loadCol1 ty22 (.plain rfl) rfl rfl rfl (fun _ => by omega))
                  apply Trace.pu [] (.move (.plain rfl))
                  first | apply Trace.pu [] (.indexRows el22 (.plain rfl) (.plain rfl) (fun _ => ⟨by omega, by omega⟩)) | apply Trace.pu [] (.indexOwn el22 (.plain rfl) (.plain rfl) (fun _ => ⟨by omega, by omega⟩)) | apply Trace.pu [] (.indexSl el22 (.plain rfl) (.plain rfl) (fun _ => ⟨by omega, by omega⟩))
                  first | apply Trace.pu [_] (.loadLoc1D ty3 (.plain rfl) rfl rfl) | apply Trace.pu [_] (.loadLoc1 ty3 (.plain rfl) rfl rfl) | apply Trace.pu [] (.loadRp1 ty3 (.plain rfl) rfl) | apply Trace.pu [_] (.loadCol1 ty3 (.plain rfl) rfl rfl rfl (fun _ => by omega))
                  apply Trace.pu [] (.move (.plain rfl))
                  apply Trace.pu [] (.move (.plain rfl))
                  first | apply Trace.pu [] (.indexRows el22 (.plain rfl) (.plain rfl) (fun _ => ⟨by omega, by omega⟩)) | apply Trace.pu [] (.indexOwn el22 (.plain rfl) (.plain rfl) (fun _ => ⟨by omega, by omega⟩)) | apply Trace.pu [] (.indexSl el22 (.plain rfl) (.plain rfl) (fun _ => ⟨by omega, by omega⟩))
                  first | apply Trace.pu [_] (.loadLoc1D ty3 (.plain rfl) rfl rfl) | apply Trace.pu [_] (.loadLoc1 ty3 (.plain rfl) rfl rfl) | apply Trace.pu [] (.loadRp1 ty3 (.plain rfl) rfl) | apply Trace.pu [_] (.loadCol1 ty3 (.plain rfl) rfl rfl rfl (fun _ => by omega))
                  apply Trace.pu [] ((Pure.cmp (.plain rfl) (.plain rfl) rfl).to (y := bv false) (congrArg bv (decide_eq_false h1)))
                  apply Trace.pu [] (.move (.plain rfl))
                  apply Trace.pg [] rfl (.fieldAddr fl32_0 (.plain rfl) rfl)
                  first | apply Trace.pg [_] rfl (.loadLoc1D ty22 (.gd rfl (fun h => h)) rfl rfl) | apply Trace.pg [_] rfl (.loadLoc1 ty22 (.gd rfl (fun h => h)) rfl rfl) | apply Trace.pg [] rfl (.loadRp1 ty22 (.gd rfl (fun h => h)) rfl) | apply Trace.pg [_] rfl (.loadCol1 ty22 (.gd rfl (fun h => h)) rfl rfl rfl (fun _ => by omega))
                  apply Trace.pg [] rfl (.move (.plain rfl))
                  first | apply Trace.pg [] rfl (.indexRows el22 (.gd rfl (fun h => h)) (.gd rfl (fun h => h)) (fun _ => ⟨by omega, by omega⟩)) | apply Trace.pg [] rfl (.indexOwn el22 (.gd rfl (fun h => h)) (.gd rfl (fun h => h)) (fun _ => ⟨by omega, by omega⟩)) | apply Trace.pg [] rfl (.indexSl el22 (.gd rfl (fun h => h)) (.gd rfl (fun h => h)) (fun _ => ⟨by omega, by omega⟩))
                  first | apply Trace.pg [_] rfl (.loadLoc1D ty3 (.gd rfl (fun h => h)) rfl rfl) | apply Trace.pg [_] rfl (.loadLoc1 ty3 (.gd rfl (fun h => h)) rfl rfl) | apply Trace.pg [] rfl (.loadRp1 ty3 (.gd rfl (fun h => h)) rfl) | apply Trace.pg [_] rfl (.loadCol1 ty3 (.gd rfl (fun h => h)) rfl rfl rfl (fun _ => by omega))
                  apply Trace.pg [] rfl (.move (.plain rfl))
                  apply Trace.pg [] rfl (.move (.plain rfl))
                  first | apply Trace.pg [] rfl (.indexRows el22 (.gd rfl (fun h => h)) (.gd rfl (fun h => h)) (fun _ => ⟨by omega, by omega⟩)) | apply Trace.pg [] rfl (.indexOwn el22 (.gd rfl (fun h => h)) (.gd rfl (fun h => h)) (fun _ => ⟨by omega, by omega⟩)) | apply Trace.pg [] rfl (.indexSl el22 (.gd rfl (fun h => h)) (.gd rfl (fun h => h)) (fun _ => ⟨by omega, by omega⟩))
                  first | apply Trace.pg [_] rfl (.loadLoc1D ty3 (.gd rfl (fun h => h)) rfl rfl) | apply Trace.pg [_] rfl (.loadLoc1 ty3 (.gd rfl (fun h => h)) rfl rfl) | apply Trace.pg [] rfl (.loadRp1 ty3 (.gd rfl (fun h => h)) rfl) | apply Trace.pg [_] rfl (.loadCol1 ty3 (.gd rfl (fun h => h)) rfl rfl rfl (fun _ => by omega))
                  apply Trace.pg [] rfl ((Pure.cmp (.gd rfl (fun h => h)) (.gd rfl (fun h => h)) rfl).to (y := bv false) (congrArg bv (decide_eq_false h2)))
                  apply Trace.pu [] (.pick (.plain rfl) (.plain rfl) (.gd rfl (by simp)))
                  apply Trace.pu [] (.move (.plain rfl))
                  apply Trace.pg [] rfl (.fieldAddr fl32_2 (.plain rfl) rfl)
                  first | apply Trace.pg [_] rfl (.loadLoc1D ty3 (.gd rfl (fun h => h)) rfl rfl) | apply Trace.pg [_] rfl (.loadLoc1 ty3 (.gd rfl (fun h => h)) rfl rfl) | apply Trace.pg [] rfl (.loadRp1 ty3 (.gd rfl (fun h => h)) rfl) | apply Trace.pg [_] rfl (.loadCol1 ty3 (.gd rfl (fun h => h)) rfl rfl rfl (fun _ => by omega))
                  apply Trace.pg [] rfl (.fieldAddr fl32_2 (.plain rfl) rfl)
                  first | apply Trace.pg [_] rfl (.loadLoc1D ty3 (.gd rfl (fun h => h)) rfl rfl) | apply Trace.pg [_] rfl (.loadLoc1 ty3 (.gd rfl (fun h => h)) rfl rfl) | apply Trace.pg [] rfl (.loadRp1 ty3 (.gd rfl (fun h => h)) rfl) | apply Trace.pg [_] rfl (.loadCol1 ty3 (.gd rfl (fun h => h)) rfl rfl rfl (fun _ => by omega))
                  apply Trace.pg [] rfl (.cmp (.gd rfl (fun h => h)) (.gd rfl (fun h => h)) rfl)
                  apply Trace.pg [] rfl (.move (.gd rfl (fun h => h)))
                  apply Trace.pg [] rfl (.fieldAddr fl32_0 (.plain rfl) rfl)
                  first | apply Trace.pg [_] rfl (.loadLoc1D ty22 (.gd rfl (fun h => h)) rfl rfl) | apply Trace.pg [_] rfl (.loadLoc1 ty22 (.gd rfl (fun h => h)) rfl rfl) | apply Trace.pg [] rfl (.loadRp1 ty22 (.gd rfl (fun h => h)) rfl) | apply Trace.pg [_] rfl (.loadCol1 ty22 (.gd rfl (fun h => h)) rfl rfl rfl (fun _ => by omega))
                  apply Trace.pg [] rfl (.move (.plain rfl))
                  first | apply Trace.pg [] rfl (.indexRows el22 (.gd rfl (fun h => h)) (.gd rfl (fun h => h)) (fun _ => ⟨by omega, by omega⟩)) | apply Trace.pg [] rfl (.indexOwn el22 (.gd rfl (fun h => h)) (.gd rfl (fun h => h)) (fun _ => ⟨by omega, by omega⟩)) | apply Trace.pg [] rfl (.indexSl el22 (.gd rfl (fun h => h)) (.gd rfl (fun h => h)) (fun _ => ⟨by omega, by omega⟩))
                  first | apply Trace.pg [_] rfl (.loadLoc1D ty3 (.gd rfl (fun h => h)) rfl rfl) | apply Trace.pg [_] rfl (.loadLoc1 ty3 (.gd rfl (fun h => h)) rfl rfl) | apply Trace.pg [] rfl (.loadRp1 ty3 (.gd rfl (fun h => h)) rfl) | apply Trace.pg [_] rfl (.loadCol1 ty3 (.gd rfl (fun h => h)) rfl rfl rfl (fun _ => by omega))
                  apply Trace.pg [] rfl (.fieldAddr fl32_0 (.plain rfl) rfl)
                  first | apply Trace.pg [_] rfl (.loadLoc1D ty22 (.gd rfl (fun h => h)) rfl rfl) | apply Trace.pg [_] rfl (.loadLoc1 ty22 (.gd rfl (fun h => h)) rfl rfl) | apply Trace.pg [] rfl (.loadRp1 ty22 (.gd rfl (fun h => h)) rfl) | apply Trace.pg [_] rfl (.loadCol1 ty22 (.gd rfl (fun h => h)) rfl rfl rfl (fun _ => by omega))
                  apply Trace.pg [] rfl (.move (.plain rfl))
                  first | apply Trace.pg [] rfl (.indexRows el22 (.gd rfl (fun h => h)) (.gd rfl (fun h => h)) (fun _ => ⟨by omega, by omega⟩)) | apply Trace.pg [] rfl (.indexOwn el22 (.gd rfl (fun h => h)) (.gd rfl (fun h => h)) (fun _ => ⟨by omega, by omega⟩)) | apply Trace.pg [] rfl (.indexSl el22 (.gd rfl (fun h => h)) (.gd rfl (fun h => h)) (fun _ => ⟨by omega, by omega⟩))
                  first | apply Trace.pg [_] rfl (.loadLoc1D ty3 (.gd rfl (fun h => h)) rfl rfl) | apply Trace.pg [_] rfl (.loadLoc1 ty3 (.gd rfl (fun h => h)) rfl rfl) | apply Trace.pg [] rfl (.loadRp1 ty3 (.gd rfl (fun h => h)) rfl) | apply Trace.pg [_] rfl (.loadCol1 ty3 (.gd rfl (fun h => h)) rfl rfl rfl (fun _ => by omega))
                  apply Trace.pg [] rfl (.cmp (.gd rfl (fun h => h)) (.gd rfl (fun h => h)) rfl)
                  apply Trace.pg [] rfl (.pick (.gd rfl (fun h => h)) (.gd rfl (by simp)) (.plain rfl))
                  apply Trace.pu [] (.pick (.plain rfl) (.plain rfl) (.gd rfl (by simp)))
                  exact .nil _
                · rfl
                · exact keepOK_of hk hn rfl
                refine WPA.cond rfl (fun hc8 => ?_) (fun hc8 => ?_)
                · exfalso
                  have h9 : (bif decide (g.memTo at_ g.es.length = g.memTo g.best g.es.length) then decide (at_.getD i 0 < g.best.getD i 0) else false) = true := hc8
                  rw [bif_and, Bool.and_eq_true, decide_eq_true_eq, decide_eq_true_eq] at h9
                  have := hB.least _ hp2 (by rw [← memTo_mem, ← memTo_mem]; exact h9.1) i (by omega)
                  unfold fn at this
                  omega
                · apply WPA.skip
                  apply WPA.region
                  · apply Trace.pu [] (.arith (.plain rfl) (.plain rfl) rfl (fun _ => bd64 (by omega)))
                    apply Trace.pu [] (.move (.plain rfl))
                    exact .nil _
                  · exact keepOK_of hk hn rfl
                  exact ⟨i + 1, by omega, by omega, St.le_cons rfl (St.le_cons rfl (St.le_cons rfl (St.le_cons rfl (St.le_cons rfl (St.le_cons (slI (by omega)) (St.le_cons rfl (St.le_cons rfl (St.le_cons rfl (St.le_nil _)))))))))⟩
              · apply WPA.exit
                apply WPA.seq
                apply WPA.region
                · apply Trace.pu [] (.assign (.plain rfl))
                  exact .nil _
                · exact keepOK_of hk hn rfl
                apply WPA.ret
                refine ⟨.inr rfl, ⟨_, (.cons (.tmp rfl) .nil), ?_⟩, by simp [St.get]⟩
                rfl

/-- soundpost/soundpostlaw23.PlanMeets -/
theorem spec6 (g : Gr) (hz : g.Sz) (xs : List Int) (hx : ∀ x ∈ xs, 0 ≤ x ∧ x ≤ 255) (hxl : xs.length ≤ 4611686018427387904) : FnSpec Try.prog 6 [g.av, .d (u8D xs)] [] (bv true) [] [] := by
  have hn1 := hz.n
  have hn2 := hz.m
  refine fnSpec_of (rs := [.tmp 4]) Try.func6 rfl rfl (Nat.le_of_ble_eq_true rfl) (by simp [St.get]) fun E hk hn => ?_
  apply WPA.seq
  apply WPA.region
  · first | apply Trace.boxD 2 [] (.plain rfl) rfl rfl | apply Trace.box 2 [] (.plain rfl) rfl rfl rfl
    apply Trace.pu [] (.assign (.plain rfl))
    exact .nil _
  · exact keepOK_of hk hn rfl
  apply WPA.seq
  apply WPA.seq
  apply WPA.region
  · apply Trace.cu (callArgs0 .nil) spec10 en10
    apply Trace.pu [] (.not (.plain rfl))
    exact .nil _
  · exact keepOK_of hk hn rfl
  refine WPA.cond rfl (fun hc1 => ?_) (fun hc1 => ?_)
  · cases hc1
  · apply WPA.skip
    apply WPA.seq
    apply WPA.seq
    apply WPA.region
    · first | apply Trace.pu [_] (.loadAllD ty25 (.plain rfl) rfl (by simp)) | apply Trace.pu [_] (.loadLocD ty25 (.plain rfl) rfl (fun _ => by simp)) | apply Trace.pu [_] (.loadLoc ty25 (.plain rfl) rfl (fun _ => Nat.le_of_ble_eq_true rfl)) | apply Trace.pu [] (.loadRp ty25 (.plain rfl) (fun _ => by decide)) | apply Trace.pu [] (.loadRp ty25 (.plain rfl) (fun _ => Nat.le_of_ble_eq_true rfl)) | apply Trace.pu [_] (.loadCol ty25 (.plain rfl) rfl rfl (fun _ => by decide) (fun _ => by omega)) | apply Trace.pu [_] (.loadArr ty25 (.plain rfl) rfl)
      apply Trace.cu (callArgs0 (.cons (.plain rfl) .nil)) (spec11 g hz) en11
      apply Trace.pu [] (.not (.plain rfl))
      apply Trace.pu [] (.move (.plain rfl))
      apply Trace.pg [] rfl (.move (.plain rfl))
      apply Trace.pg [] rfl (.len rfl Try.underlying42 (.gd rfl (fun h => h)) rfl)
      apply Trace.pg [] rfl (.cmp (.gd rfl (fun h => h)) (.plain rfl) rfl)
      apply Trace.pu [] (.pick (.plain rfl) (.plain rfl) (.gd rfl (by simp)))
      apply Trace.pu [] (.move (.plain rfl))
      first | apply Trace.pg [_] rfl (.loadAllD ty25 (.plain rfl) rfl (by simp)) | apply Trace.pg [_] rfl (.loadLocD ty25 (.plain rfl) rfl (fun _ => by simp)) | apply Trace.pg [_] rfl (.loadLoc ty25 (.plain rfl) rfl (fun _ => Nat.le_of_ble_eq_true rfl)) | apply Trace.pg [] rfl (.loadRp ty25 (.plain rfl) (fun _ => by decide)) | apply Trace.pg [] rfl (.loadRp ty25 (.plain rfl) (fun _ => Nat.le_of_ble_eq_true rfl)) | apply Trace.pg [_] rfl (.loadCol ty25 (.plain rfl) rfl rfl (fun _ => by decide) (fun _ => by omega)) | apply Trace.pg [_] rfl (.loadArr ty25 (.plain rfl) rfl)
      apply Trace.cg rfl (callArgs0 (.cons (.gd rfl (fun h => h)) .nil)) (fun _ => spec23 g hz) en23
      apply Trace.pg [] rfl (.not (.gd rfl (fun h => h)))
      apply Trace.pu [] (.pick (.plain rfl) (.plain rfl) (.gd rfl (by simp)))
      apply Trace.pu [] (.move (.plain rfl))
      first | apply Trace.pg [_] rfl (.loadAllD ty25 (.plain rfl) rfl (by simp)) | apply Trace.pg [_] rfl (.loadLocD ty25 (.plain rfl) rfl (fun _ => by simp)) | apply Trace.pg [_] rfl (.loadLoc ty25 (.plain rfl) rfl (fun _ => Nat.le_of_ble_eq_true rfl)) | apply Trace.pg [] rfl (.loadRp ty25 (.plain rfl) (fun _ => by decide)) | apply Trace.pg [] rfl (.loadRp ty25 (.plain rfl) (fun _ => Nat.le_of_ble_eq_true rfl)) | apply Trace.pg [_] rfl (.loadCol ty25 (.plain rfl) rfl rfl (fun _ => by decide) (fun _ => by omega)) | apply Trace.pg [_] rfl (.loadArr ty25 (.plain rfl) rfl)
      apply Trace.cg rfl (callArgs0 (.cons (.gd rfl (fun h => h)) .nil)) (fun _ => spec21 g hz) en21
      apply Trace.pg [] rfl (.cmp (.gd rfl (fun h => h)) (.plain rfl) rfl)
      apply Trace.pu [] (.pick (.plain rfl) (.plain rfl) (.gd rfl (by simp)))
      exact .nil _
    · exact keepOK_of hk hn rfl
    refine WPA.cond rfl (fun hc2 => ?_) (fun hc2 => ?_)
    · apply WPA.seq
      apply WPA.region
      · apply Trace.pu [] (.assign (.plain rfl))
        exact .nil _
      · exact keepOK_of hk hn rfl
      apply WPA.ret
      refine ⟨.inr rfl, ⟨_, (.cons (.tmp rfl) .nil), ?_⟩, by simp [St.get]⟩
      rfl
    · obtain ⟨hsome, hlen, hC⟩ : g.some = true ∧ xs.length ≤ 60 ∧ g.check = 0 := by
        have h9 : (bif (bif (bif !g.some then true else decide ((60 : Int) < xs.length)) then true else !g.inB) then true else !decide (g.check = 0)) = false := hc2
        rw [bif_or, bif_or, bif_or, Bool.or_eq_false_iff, Bool.or_eq_false_iff, Bool.or_eq_false_iff, Bool.not_eq_false', Bool.not_eq_false', Bool.not_eq_false', decide_eq_false_iff_not, decide_eq_true_eq] at h9
        exact ⟨h9.1.1.1, by omega, h9.2⟩
      have ht := tiny_of hsome
      have hok := g.ok_of (check_formed hC)
      have hsh := check_short hC
      have hbp := best_posB hok hsh ht
      obtain ⟨hq1, hq2, hq3⟩ := posB_iff hbp
      have hq4 : ∀ v : Nat, 0 ≤ g.best.getD v 0 ∧ g.best.getD v 0 ≤ 1099511627776 := fun v => by
        by_cases hv : v < g.lat.length
        · exact ⟨hq2.pos v hv, hq3 v hv⟩
        · rw [getD_ge _ _ (by omega)]; omega
      have hdl := delTo_len g g.best g.es.length
      have hm1 := ht.m
      have hm2 := ht.n
      have q1 : (g.planOf g.best).at_.length = g.best.length := rfl
      have q2 : (g.planOf g.best).del.length = g.es.length := hdl
      apply WPA.skip
      apply WPA.seq
      apply WPA.region
      · first | apply Trace.pu [_] (.loadAllD ty25 (.plain rfl) rfl (by simp)) | apply Trace.pu [_] (.loadLocD ty25 (.plain rfl) rfl (fun _ => by simp)) | apply Trace.pu [_] (.loadLoc ty25 (.plain rfl) rfl (fun _ => Nat.le_of_ble_eq_true rfl)) | apply Trace.pu [] (.loadRp ty25 (.plain rfl) (fun _ => by decide)) | apply Trace.pu [] (.loadRp ty25 (.plain rfl) (fun _ => Nat.le_of_ble_eq_true rfl)) | apply Trace.pu [_] (.loadCol ty25 (.plain rfl) rfl rfl (fun _ => by decide) (fun _ => by omega)) | apply Trace.pu [_] (.loadArr ty25 (.plain rfl) rfl)
        apply Trace.ct (callArgs0 (.cons (.plain rfl) .nil)) (spec22 hz hC ht) en22
        apply Trace.pu [] (.move (.plain rfl))
        apply Trace.pu [] (.extract (.plain rfl) rfl)
        apply Trace.pu [] (.extract (.plain rfl) rfl)
        apply Trace.alloc 5 [] (.data _) zo32 (cellsAs_data _) rfl
        first | apply Trace.storeD ty32 (.plain rfl) (.plain rfl) rfl rfl (by simp) (by simp [AV.oneB, single, intsD, rowsD]) (by simp) (spliceL_all (by simp)) | apply Trace.storeD ty32 (.plain rfl) (.plain rfl) rfl rfl (by simp) (by simp [AV.oneB, single, intsD, rowsD]) (by simp) rfl | apply Trace.storeDA ty32 (.plain rfl) (.plain rfl) rfl rfl (by simp) (by simp [AV.oneB, single]) (by simp) rfl | apply Trace.storeLoc ty32 (.plain rfl) (.plain rfl) rfl rfl (by simp) (by simp [AV.oneB, single]) (by simp) rfl | apply Trace.storeRow ty32 (.plain rfl) (.plain rfl) rfl rfl rfl rfl (by decide) (by simp [AV.oneB, single]) rfl (by omega)
        apply Trace.pu [] (.assign (.plain rfl))
        exact .nil _
      · exact keepOK_of hk hn rfl
      apply WPA.seq
      apply WPA.seq
      apply WPA.region
      · apply Trace.pu [] (.move (.plain rfl))
        apply Trace.pu [] (.not (.plain rfl))
        apply Trace.pu [] (.move (.plain rfl))
        apply Trace.pg [] rfl (.fieldAddr fl32_1 (.plain rfl) rfl)
        first | apply Trace.pg [_] rfl (.loadLoc1D ty22 (.gd rfl (fun h => h)) rfl rfl) | apply Trace.pg [_] rfl (.loadLoc1 ty22 (.gd rfl (fun h => h)) rfl rfl) | apply Trace.pg [] rfl (.loadRp1 ty22 (.gd rfl (fun h => h)) rfl) | apply Trace.pg [_] rfl (.loadCol1 ty22 (.gd rfl (fun h => h)) rfl rfl rfl (fun _ => by omega))
        apply Trace.pg [] rfl (.len rfl Try.underlying22 (.gd rfl (fun h => h)) rfl)
        apply Trace.pg [] rfl (.fieldAddr fl25_1 (.plain rfl) rfl)
        first | apply Trace.pg [_] rfl (.loadLoc1D ty23 (.gd rfl (fun h => h)) rfl rfl) | apply Trace.pg [_] rfl (.loadLoc1 ty23 (.gd rfl (fun h => h)) rfl rfl) | apply Trace.pg [] rfl (.loadRp1 ty23 (.gd rfl (fun h => h)) rfl) | apply Trace.pg [_] rfl (.loadCol1 ty23 (.gd rfl (fun h => h)) rfl rfl rfl (fun _ => by omega))
        apply Trace.pg [] rfl (.len rfl Try.underlying23 (.gd rfl (fun h => h)) rfl)
        apply Trace.pg [] rfl ((Pure.cmp (.gd rfl (fun h => h)) (.gd rfl (fun h => h)) rfl).to (y := bv false) (congrArg bv (by show (!decide ((((g.planOf g.best).del.length : Nat) : Int) = ((g.es.length : Nat) : Int))) = false; rw [decide_eq_true (by omega)]; rfl)))
        apply Trace.pu [] (.pick (.plain rfl) (.plain rfl) (.gd rfl (by simp)))
        exact .nil _
      · exact keepOK_of hk hn rfl
      refine WPA.cond rfl (fun hc3 => ?_) (fun hc3 => ?_)
      · cases hc3
      · apply WPA.skip
        apply WPA.seq
        apply WPA.seq
        apply WPA.region
        · apply Trace.pu [] (.fieldAddr fl25_1 (.plain rfl) rfl)
          first | apply Trace.pu [_] (.loadLoc1D ty23 (.plain rfl) rfl rfl) | apply Trace.pu [_] (.loadLoc1 ty23 (.plain rfl) rfl rfl) | apply Trace.pu [] (.loadRp1 ty23 (.plain rfl) rfl) | apply Trace.pu [_] (.loadCol1 ty23 (.plain rfl) rfl rfl rfl (fun _ => by omega))
          apply Trace.pu [] (.len rfl Try.underlying23 (.plain rfl) rfl)
          apply Trace.pu [] (.cmp (.plain rfl) (.plain rfl) rfl)
          exact .nil _
        · exact keepOK_of hk hn rfl
        refine WPA.cond rfl (fun hc4 => ?_) (fun hc4 => ?_)
        · apply WPA.seq
          apply WPA.region
          · apply Trace.pu [] (.assign (.plain rfl))
            exact .nil _
          · exact keepOK_of hk hn rfl
          apply WPA.ret
          refine ⟨.inr rfl, ⟨_, (.cons (.tmp rfl) .nil), ?_⟩, by simp [St.get]⟩
          rfl
        · have hm0 : 0 < g.es.length := by
            have : ¬ ((g.es.length : Int) = 0) := by simpa using hc4
            omega
          apply WPA.skip
          apply WPA.seq
          apply WPA.region
          · apply Trace.pu [] (.assign (.plain rfl))
            apply Trace.pu [] (.assign (.plain rfl))
            apply Trace.pu [] (.assign (.plain rfl))
            exact .nil _
          · exact keepOK_of hk hn rfl
          apply WPA.seq
          apply WPA.seq
          apply WPA.region
          · apply Trace.pu [] (.move (.plain rfl))
            apply Trace.pu [] (.len rfl Try.underlying42 (.plain rfl) rfl)
            apply Trace.pu [] (.move (.plain rfl))
            exact .nil _
          · exact keepOK_of hk hn rfl
          apply WPA.block
          refine WPA.loop (σ := Nat × Int × Int × Int) (fun y => [(sl 2, .av (.loc 2 0)), (sl 5, .av (.loc 5 0)), (sl 7, .av (iv .i64 (y.2.1))), (sl 8, .av (iv .i64 (y.2.2.1))), (sl 9, .av (iv .i64 (y.2.2.2))), (sl 55, .av (.d (u8D xs))), (sl 56, .av (iv .i64 (xs.length))), (sl 57, .av (iv .i64 (y.1))), (bk 2, .blk (.data g.ds)), (bk 5, .blk (.data [intsD g.best, intsD (g.delTo g.best g.es.length), .v (.int .i64 (g.memTo g.best g.es.length))]))]) (fun y => y.1 ≤ xs.length ∧ Wlk g g.best y.2.1 y.2.2.1 y.2.2.2) (fun y => xs.length - y.1) (0, -1, 0, 0) (St.le_cons rfl (St.le_cons rfl (St.le_cons rfl (St.le_cons rfl (St.le_cons rfl (St.le_cons rfl (St.le_cons rfl (St.le_cons rfl (St.le_cons rfl (St.le_cons rfl (St.le_nil _))))))))))) ⟨Nat.zero_le _, .inl ⟨rfl, rfl⟩⟩ fun y hy => ?_
          obtain ⟨i, a, f, s⟩ := y
          obtain ⟨hi, hW⟩ := hy
          have hi : i ≤ xs.length := hi
          have hW : Wlk g g.best a f s := hW
          apply WPA.seq
          apply WPA.region
          · apply Trace.pu [] (.cmp (.plain rfl) (.plain rfl) rfl)
            exact .nil _
          · exact keepOK_of hk hn rfl
          apply WPA.seq
          refine WPA.cond rfl (fun hc5 => ?_) (fun hc5 => ?_)
          · have hlt : i < xs.length := by simpa using hc5
            have hw := hx (xs.getD i 0) (by rw [getD_lt _ _ hlt]; exact List.getElem_mem hlt)
            have hb3 := hq4 a.toNat
            have hb4 := hq4 f.toNat
            apply WPA.skip
            apply WPA.seq
            apply WPA.block
            apply WPA.seq
            apply WPA.region
            · first | apply Trace.pu [] (.indexRows el42 (.plain rfl) (.plain rfl) (fun _ => ⟨by omega, by omega⟩)) | apply Trace.pu [] (.indexOwn el42 (.plain rfl) (.plain rfl) (fun _ => ⟨by omega, by omega⟩)) | apply Trace.pu [] (.indexSl el42 (.plain rfl) (.plain rfl) (fun _ => ⟨by omega, by omega⟩))
              first | apply Trace.pu [_] (.loadLoc1D ty5 (.plain rfl) rfl rfl) | apply Trace.pu [_] (.loadLoc1 ty5 (.plain rfl) rfl rfl) | apply Trace.pu [] (.loadRp1 ty5 (.plain rfl) rfl) | apply Trace.pu [_] (.loadCol1 ty5 (.plain rfl) rfl rfl rfl (fun _ => by omega))
              apply Trace.pu [] (.assign (.plain rfl))
              exact .nil _
            · exact keepOK_of hk hn rfl
            apply WPA.seq
            apply WPA.seq
            apply WPA.region
            · apply Trace.pu [] (.fieldAddr fl25_1 (.plain rfl) rfl)
              first | apply Trace.pu [_] (.loadLoc1D ty23 (.plain rfl) rfl rfl) | apply Trace.pu [_] (.loadLoc1 ty23 (.plain rfl) rfl rfl) | apply Trace.pu [] (.loadRp1 ty23 (.plain rfl) rfl) | apply Trace.pu [_] (.loadCol1 ty23 (.plain rfl) rfl rfl rfl (fun _ => by omega))
              apply Trace.pu [] (.len rfl Try.underlying23 (.plain rfl) rfl)
              apply Trace.pu [] (.move (.plain rfl))
              exact .nil _
            · exact keepOK_of hk hn rfl
            apply WPA.block
            refine WPA.loop (σ := Nat) (fun k => [(sl 2, .av (.loc 2 0)), (sl 5, .av (.loc 5 0)), (sl 7, .av (iv .i64 (a))), (sl 8, .av (iv .i64 (f))), (sl 9, .av (iv .i64 (s))), (sl 11, .av (.d (.v (.int .u8 (xs.getD i 0))))), (sl 55, .av (.d (u8D xs))), (sl 56, .av (iv .i64 (xs.length))), (sl 57, .av (iv .i64 (i))), (sl 63, .av (iv .i64 (g.es.length))), (sl 64, .av (iv .i64 (k))), (bk 2, .blk (.data g.ds)), (bk 5, .blk (.data [intsD g.best, intsD (g.delTo g.best g.es.length), .v (.int .i64 (g.memTo g.best g.es.length))]))]) (fun k => k ≤ g.es.length) (fun k => g.es.length - k) 0
              (St.le_cons rfl (St.le_cons rfl (St.le_cons rfl (St.le_cons rfl (St.le_cons rfl (St.le_cons rfl (St.le_cons rfl (St.le_cons rfl (St.le_cons rfl (St.le_cons rfl (St.le_cons rfl (St.le_cons rfl (St.le_cons rfl (St.le_nil _)))))))))))))) (Nat.zero_le _) fun k hk9 => ?_
            apply WPA.seq
            apply WPA.region
            · apply Trace.pu [] (.cmp (.plain rfl) (.plain rfl) rfl)
              exact .nil _
            · exact keepOK_of hk hn rfl
            apply WPA.seq
            refine WPA.cond rfl (fun hc6 => ?_) (fun hc6 => ?_)
            · have hlk : k < g.es.length := by simpa using hc6
              obtain ⟨jx, hjx⟩ : ∃ jx, ((xs.getD i 0).toNat + k) % g.es.length = jx := ⟨_, rfl⟩
              have hjl : jx < g.es.length := by rw [← hjx]; exact Nat.mod_lt _ hm0
              obtain ⟨e, he⟩ : ∃ e, g.es.getD jx default = e := ⟨_, rfl⟩
              have hem : e ∈ g.es := by rw [← he]; exact (Gr.edge hok hjl).1
              obtain ⟨he1, he2, he3, he4, _, _, he5, he6, he7, he8⟩ := Gr.edge_mem hok hem
              have hde : (g.delTo g.best g.es.length).getD jx 0 = g.best.getD e.t.toNat 0 + e.d - g.best.getD e.f.toNat 0 - g.lat.getD e.f.toNat 0 := by rw [delTo_at g g.best hjl, ← he]; rfl
              have hde2 : (g.delTo g.best g.es.length).getD ((jx : Nat) : Int).toNat 0 = g.best.getD e.t.toNat 0 + e.d - g.best.getD e.f.toNat 0 - g.lat.getD e.f.toNat 0 := hde
              have hb1 := hq4 e.f.toNat
              have hb2 := hq4 e.t.toNat
              have hb3 := hq4 a.toNat
              have hb4 := hq4 f.toNat
              have hsb : -1099511627776 ≤ s ∧ s ≤ 1099511627776 := by
                rcases hW with ⟨_, h⟩ | ⟨_, _, _, _, h⟩
                · omega
                · omega
              apply WPA.skip
              apply WPA.seq
              apply WPA.block
              apply WPA.seq
              apply WPA.region
              · apply Trace.pu [] (.move (.plain rfl))
                apply Trace.pu [] (.assign (.plain rfl))
                exact .nil _
              · exact keepOK_of hk hn rfl
              apply WPA.seq
              apply WPA.region
              · apply Trace.pu [] (.move (.plain rfl))
                apply Trace.pu [] ((Pure.conv Try.underlying5 Try.underlying3 (.plain rfl)).to (y := iv .i64 (xs.getD i 0)) (by rw [wrapI (by omega)]))
                apply Trace.pu [] (.move (.plain rfl))
                apply Trace.pu [] (.arith (.plain rfl) (.plain rfl) rfl (fun _ => bd64 (by omega)))
                apply Trace.pu [] (.fieldAddr fl25_1 (.plain rfl) rfl)
                first | apply Trace.pu [_] (.loadLoc1D ty23 (.plain rfl) rfl rfl) | apply Trace.pu [_] (.loadLoc1 ty23 (.plain rfl) rfl rfl) | apply Trace.pu [] (.loadRp1 ty23 (.plain rfl) rfl) | apply Trace.pu [_] (.loadCol1 ty23 (.plain rfl) rfl rfl rfl (fun _ => by omega))
                apply Trace.pu [] (.len rfl Try.underlying23 (.plain rfl) rfl)
                apply Trace.pu [] ((Pure.rem (.plain rfl) (.plain rfl) (fun _ => by omega)).to (y := iv .i64 (jx : Int)) (by rw [tmodN _ _ _ hw.1 (by omega) (by omega) hm0, hjx]))
                apply Trace.pu [] (.assign (.plain rfl))
                exact .nil _
              · exact keepOK_of hk hn rfl
              apply WPA.seq
              apply WPA.region
              · apply Trace.pu [] (.fieldAddr fl25_1 (.plain rfl) rfl)
                first | apply Trace.pu [_] (.loadLoc1D ty23 (.plain rfl) rfl rfl) | apply Trace.pu [_] (.loadLoc1 ty23 (.plain rfl) rfl rfl) | apply Trace.pu [] (.loadRp1 ty23 (.plain rfl) rfl) | apply Trace.pu [_] (.loadCol1 ty23 (.plain rfl) rfl rfl rfl (fun _ => by omega))
                apply Trace.pu [] (.move (.plain rfl))
                apply Trace.pu [] ((Pure.indexRows el23 (.plain rfl) (.plain rfl) (fun _ => ⟨by omega, by omega⟩)).to (y := .rp e.ds) (by show AV.rp (g.es.getD jx default).ds = _; rw [he]))
                first | apply Trace.pu [_] (.loadAllD ty44 (.plain rfl) rfl (by simp)) | apply Trace.pu [_] (.loadLocD ty44 (.plain rfl) rfl (fun _ => by simp)) | apply Trace.pu [_] (.loadLoc ty44 (.plain rfl) rfl (fun _ => Nat.le_of_ble_eq_true rfl)) | apply Trace.pu [] (.loadRp ty44 (.plain rfl) (fun _ => by decide)) | apply Trace.pu [] (.loadRp ty44 (.plain rfl) (fun _ => Nat.le_of_ble_eq_true rfl)) | apply Trace.pu [_] (.loadCol ty44 (.plain rfl) rfl rfl (fun _ => by decide) (fun _ => by omega)) | apply Trace.pu [_] (.loadArr ty44 (.plain rfl) rfl)
                apply Trace.alloc 14 [] (.data _) zo44 (cellsAs_data _) rfl
                first | apply Trace.storeD ty44 (.plain rfl) (.plain rfl) rfl rfl (by simp) (by simp [AV.oneB, single, intsD, rowsD]) (by simp) (spliceL_all (by simp)) | apply Trace.storeD ty44 (.plain rfl) (.plain rfl) rfl rfl (by simp) (by simp [AV.oneB, single, intsD, rowsD]) (by simp) rfl | apply Trace.storeDA ty44 (.plain rfl) (.plain rfl) rfl rfl (by simp) (by simp [AV.oneB, single]) (by simp) rfl | apply Trace.storeLoc ty44 (.plain rfl) (.plain rfl) rfl rfl (by simp) (by simp [AV.oneB, single]) (by simp) rfl | apply Trace.storeRow ty44 (.plain rfl) (.plain rfl) rfl rfl rfl rfl (by decide) (by simp [AV.oneB, single]) rfl (by omega)
                exact .nil _
              · exact keepOK_of hk hn rfl
              apply WPA.seq
              apply WPA.region
              · apply Trace.pu [] (.move (.plain rfl))
                apply Trace.pu [] (.cmp (.plain rfl) (.plain rfl) rfl)
                apply Trace.pu [] (.move (.plain rfl))
                apply Trace.pg [] rfl (.fieldAddr fl44_0 (.plain rfl) rfl)
                first | apply Trace.pg [_] rfl (.loadLoc1D ty3 (.gd rfl (fun h => h)) rfl rfl) | apply Trace.pg [_] rfl (.loadLoc1 ty3 (.gd rfl (fun h => h)) rfl rfl) | apply Trace.pg [] rfl (.loadRp1 ty3 (.gd rfl (fun h => h)) rfl) | apply Trace.pg [_] rfl (.loadCol1 ty3 (.gd rfl (fun h => h)) rfl rfl rfl (fun _ => by omega))
                apply Trace.pg [] rfl (.move (.plain rfl))
                apply Trace.pg [] rfl (.cmp (.gd rfl (fun h => h)) (.gd rfl (fun h => h)) rfl)
                apply Trace.pu [] (.pick (.plain rfl) (.plain rfl) (.gd rfl (by simp)))
                exact .nil _
              · exact keepOK_of hk hn rfl
              refine WPA.cond rfl (fun hc7 => ?_) (fun hc7 => ?_)
              · have hor : a < 0 ∨ e.f = a := by
                  have h9 : (bif decide (a < 0) then true else decide (e.f = a)) = true := hc7
                  rw [bif_or, Bool.or_eq_true, decide_eq_true_eq, decide_eq_true_eq] at h9
                  exact h9
                apply WPA.seq
                apply WPA.seq
                apply WPA.region
                · apply Trace.pu [] (.move (.plain rfl))
                  apply Trace.pu [] (.cmp (.plain rfl) (.plain rfl) rfl)
                  exact .nil _
                · exact keepOK_of hk hn rfl
                refine WPA.cond rfl (fun hc8 => ?_) (fun hc8 => ?_)
                · have hneg : a < 0 := of_decide_eq_true hc8
                  have hW : Wlk g g.best e.t e.f (s + (g.lat.getD e.f.toNat 0 + (g.delTo g.best g.es.length).getD jx 0 - e.d)) := by
                    refine .inr ⟨he3, he4, he1, he2, ?_⟩
                    rcases hW with ⟨_, h⟩ | ⟨h, _⟩
                    · rw [hde, h]; omega
                    · omega
                  apply WPA.region
                  · apply Trace.pu [] (.fieldAddr fl44_0 (.plain rfl) rfl)
                    first | apply Trace.pu [_] (.loadLoc1D ty3 (.plain rfl) rfl rfl) | apply Trace.pu [_] (.loadLoc1 ty3 (.plain rfl) rfl rfl) | apply Trace.pu [] (.loadRp1 ty3 (.plain rfl) rfl) | apply Trace.pu [_] (.loadCol1 ty3 (.plain rfl) rfl rfl rfl (fun _ => by omega))
                    apply Trace.pu [] (.assign (.plain rfl))
                    exact .nil _
                  · exact keepOK_of hk hn rfl
                  apply WPA.seq
                  apply WPA.draw mixed
                  · apply Trace.pu [] (.move (.plain rfl))
                    apply Trace.pu [] (.fieldAddr fl25_0 (.plain rfl) rfl)
                    first | apply Trace.pu [_] (.loadLoc1D ty22 (.plain rfl) rfl rfl) | apply Trace.pu [_] (.loadLoc1 ty22 (.plain rfl) rfl rfl) | apply Trace.pu [] (.loadRp1 ty22 (.plain rfl) rfl) | apply Trace.pu [_] (.loadCol1 ty22 (.plain rfl) rfl rfl rfl (fun _ => by omega))
                    apply Trace.pu [] (.fieldAddr fl44_0 (.plain rfl) rfl)
                    first | apply Trace.pu [_] (.loadLoc1D ty3 (.plain rfl) rfl rfl) | apply Trace.pu [_] (.loadLoc1 ty3 (.plain rfl) rfl rfl) | apply Trace.pu [] (.loadRp1 ty3 (.plain rfl) rfl) | apply Trace.pu [_] (.loadCol1 ty3 (.plain rfl) rfl rfl rfl (fun _ => by omega))
                    first | apply Trace.pu [] (.indexRows el22 (.plain rfl) (.plain rfl) (fun _ => ⟨by omega, by omega⟩)) | apply Trace.pu [] (.indexOwn el22 (.plain rfl) (.plain rfl) (fun _ => ⟨by omega, by omega⟩)) | apply Trace.pu [] (.indexSl el22 (.plain rfl) (.plain rfl) (fun _ => ⟨by omega, by omega⟩))
                    first | apply Trace.pu [_] (.loadLoc1D ty3 (.plain rfl) rfl rfl) | apply Trace.pu [_] (.loadLoc1 ty3 (.plain rfl) rfl rfl) | apply Trace.pu [] (.loadRp1 ty3 (.plain rfl) rfl) | apply Trace.pu [_] (.loadCol1 ty3 (.plain rfl) rfl rfl rfl (fun _ => by omega))
                    apply Trace.pu [] (.fieldAddr fl32_1 (.plain rfl) rfl)
                    first | apply Trace.pu [_] (.loadLoc1D ty22 (.plain rfl) rfl rfl) | apply Trace.pu [_] (.loadLoc1 ty22 (.plain rfl) rfl rfl) | apply Trace.pu [] (.loadRp1 ty22 (.plain rfl) rfl) | apply Trace.pu [_] (.loadCol1 ty22 (.plain rfl) rfl rfl rfl (fun _ => by omega))
                    apply Trace.pu [] (.move (.plain rfl))
                    first | apply Trace.pu [] (.indexRows el22 (.plain rfl) (.plain rfl) (fun _ => ⟨by omega, by omega⟩)) | apply Trace.pu [] (.indexOwn el22 (.plain rfl) (.plain rfl) (fun _ => ⟨by omega, by omega⟩)) | apply Trace.pu [] (.indexSl el22 (.plain rfl) (.plain rfl) (fun _ => ⟨by omega, by omega⟩))
                    first | apply Trace.pu [_] (.loadLoc1D ty3 (.plain rfl) rfl rfl) | apply Trace.pu [_] (.loadLoc1 ty3 (.plain rfl) rfl rfl) | apply Trace.pu [] (.loadRp1 ty3 (.plain rfl) rfl) | apply Trace.pu [_] (.loadCol1 ty3 (.plain rfl) rfl rfl rfl (fun _ => by omega))
                    apply Trace.pu [] (.arith (.plain rfl) (.plain rfl) rfl (fun _ => bd64 (by omega)))
                    apply Trace.pu [] (.fieldAddr fl44_3 (.plain rfl) rfl)
                    first | apply Trace.pu [_] (.loadLoc1D ty3 (.plain rfl) rfl rfl) | apply Trace.pu [_] (.loadLoc1 ty3 (.plain rfl) rfl rfl) | apply Trace.pu [] (.loadRp1 ty3 (.plain rfl) rfl) | apply Trace.pu [_] (.loadCol1 ty3 (.plain rfl) rfl rfl rfl (fun _ => by omega))
                    apply Trace.pu [] (.arith (.plain rfl) (.plain rfl) rfl (fun _ => bd64 (by omega)))
                    apply Trace.pu [] (.arith (.plain rfl) (.plain rfl) rfl (fun _ => bd64 (by omega)))
                    apply Trace.pu [] (.assign (.plain rfl))
                    exact .nil _
                  · rfl
                  · exact keepOK_of hk hn rfl
                  apply WPA.seq
                  apply WPA.region
                  · apply Trace.pu [] (.fieldAddr fl44_1 (.plain rfl) rfl)
                    first | apply Trace.pu [_] (.loadLoc1D ty3 (.plain rfl) rfl rfl) | apply Trace.pu [_] (.loadLoc1 ty3 (.plain rfl) rfl rfl) | apply Trace.pu [] (.loadRp1 ty3 (.plain rfl) rfl) | apply Trace.pu [_] (.loadCol1 ty3 (.plain rfl) rfl rfl rfl (fun _ => by omega))
                    apply Trace.pu [] (.assign (.plain rfl))
                    exact .nil _
                  · exact keepOK_of hk hn rfl
                  apply WPA.exit
                  apply WPA.seq
                  have hW9 := hW
                  rcases hW9 with ⟨hA, hS⟩ | ⟨hA0, hA1, hF0, hF1, hS⟩
                  · apply WPA.draw mixed
                    · apply Trace.pu [] (.move (.plain rfl))
                      apply Trace.pu [] ((Pure.cmp (.plain rfl) (.plain rfl) rfl).to (y := bv false) (congrArg bv (decide_eq_false (by omega))))
                      apply Trace.pu [] (.move (.plain rfl))
                      apply Trace.pg [] rfl (Pure.never (x := bv true) (by intro d h; cases h))
                      apply Trace.pg [] rfl (Pure.never (x := bv true) (by intro d h; cases h))
                      apply Trace.pg [] rfl (Pure.never (x := bv true) (by intro d h; cases h))
                      apply Trace.pg [] rfl (Pure.never (x := bv true) (by intro d h; cases h))
                      apply Trace.pg [] rfl (Pure.never (x := bv true) (by intro d h; cases h))
                      apply Trace.pg [] rfl (Pure.never (x := bv true) (by intro d h; cases h))
                      apply Trace.pg [] rfl (Pure.never (x := bv true) (by intro d h; cases h))
                      apply Trace.pg [] rfl (Pure.never (x := bv true) (by intro d h; cases h))
                      apply Trace.pg [] rfl (Pure.never (x := bv true) (by intro d h; cases h))
                      apply Trace.pg [] rfl (Pure.never (x := bv true) (by intro d h; cases h))
                      apply Trace.pg [] rfl (Pure.never (x := bv true) (by intro d h; cases h))
                      apply Trace.pg [] rfl (Pure.never (x := bv true) (by intro d h; cases h))
                      apply Trace.pg [] rfl (Pure.never (x := bv true) (by intro d h; cases h))
                      apply Trace.pu [] (.pick (.plain rfl) (.gd rfl (by simp)) (.plain rfl))
                      exact .nil _
                    · rfl
                    · exact keepOK_of hk hn rfl
                    refine WPA.cond rfl (fun hc9 => ?_) (fun hc9 => ?_)
                    · cases hc9
                    · apply WPA.skip
                      apply WPA.region
                      · apply Trace.pu [] (.arith (.plain rfl) (.plain rfl) rfl (fun _ => bd64 (by omega)))
                        apply Trace.pu [] (.move (.plain rfl))
                        exact .nil _
                      · exact keepOK_of hk hn rfl
                      exact ⟨(i + 1, _, _, _), ⟨by show i + 1 ≤ xs.length; omega, hW⟩, by show xs.length - (i + 1) < xs.length - i; omega, St.le_cons rfl (St.le_cons rfl (St.le_cons rfl (St.le_cons rfl (St.le_cons rfl (St.le_cons rfl (St.le_cons rfl (St.le_cons (slI (by show _ = ((i + 1 : Nat) : Int); omega)) (St.le_cons rfl (St.le_cons rfl (St.le_nil _))))))))))⟩
                  · apply WPA.draw mixed
                    · apply Trace.pu [] (.move (.plain rfl))
                      apply Trace.pu [] ((Pure.cmp (.plain rfl) (.plain rfl) rfl).to (y := bv true) (congrArg bv (decide_eq_true hA0)))
                      apply Trace.pu [] (.move (.plain rfl))
                      apply Trace.pg [] rfl (.fieldAddr fl32_0 (.plain rfl) rfl)
                      first | apply Trace.pg [_] rfl (.loadLoc1D ty22 (.gd rfl (fun h => h)) rfl rfl) | apply Trace.pg [_] rfl (.loadLoc1 ty22 (.gd rfl (fun h => h)) rfl rfl) | apply Trace.pg [] rfl (.loadRp1 ty22 (.gd rfl (fun h => h)) rfl) | apply Trace.pg [_] rfl (.loadCol1 ty22 (.gd rfl (fun h => h)) rfl rfl rfl (fun _ => by omega))
                      apply Trace.pg [] rfl (.move (.plain rfl))
                      first | apply Trace.pg [] rfl (.indexRows el22 (.gd rfl (fun h => h)) (.gd rfl (fun h => h)) (fun _ => ⟨by omega, by omega⟩)) | apply Trace.pg [] rfl (.indexOwn el22 (.gd rfl (fun h => h)) (.gd rfl (fun h => h)) (fun _ => ⟨by omega, by omega⟩)) | apply Trace.pg [] rfl (.indexSl el22 (.gd rfl (fun h => h)) (.gd rfl (fun h => h)) (fun _ => ⟨by omega, by omega⟩))
                      first | apply Trace.pg [_] rfl (.loadLoc1D ty3 (.gd rfl (fun h => h)) rfl rfl) | apply Trace.pg [_] rfl (.loadLoc1 ty3 (.gd rfl (fun h => h)) rfl rfl) | apply Trace.pg [] rfl (.loadRp1 ty3 (.gd rfl (fun h => h)) rfl) | apply Trace.pg [_] rfl (.loadCol1 ty3 (.gd rfl (fun h => h)) rfl rfl rfl (fun _ => by omega))
                      apply Trace.pg [] rfl (.fieldAddr fl32_0 (.plain rfl) rfl)
                      first | apply Trace.pg [_] rfl (.loadLoc1D ty22 (.gd rfl (fun h => h)) rfl rfl) | apply Trace.pg [_] rfl (.loadLoc1 ty22 (.gd rfl (fun h => h)) rfl rfl) | apply Trace.pg [] rfl (.loadRp1 ty22 (.gd rfl (fun h => h)) rfl) | apply Trace.pg [_] rfl (.loadCol1 ty22 (.gd rfl (fun h => h)) rfl rfl rfl (fun _ => by omega))
                      apply Trace.pg [] rfl (.move (.plain rfl))
                      first | apply Trace.pg [] rfl (.indexRows el22 (.gd rfl (fun h => h)) (.gd rfl (fun h => h)) (fun _ => ⟨by omega, by omega⟩)) | apply Trace.pg [] rfl (.indexOwn el22 (.gd rfl (fun h => h)) (.gd rfl (fun h => h)) (fun _ => ⟨by omega, by omega⟩)) | apply Trace.pg [] rfl (.indexSl el22 (.gd rfl (fun h => h)) (.gd rfl (fun h => h)) (fun _ => ⟨by omega, by omega⟩))
                      first | apply Trace.pg [_] rfl (.loadLoc1D ty3 (.gd rfl (fun h => h)) rfl rfl) | apply Trace.pg [_] rfl (.loadLoc1 ty3 (.gd rfl (fun h => h)) rfl rfl) | apply Trace.pg [] rfl (.loadRp1 ty3 (.gd rfl (fun h => h)) rfl) | apply Trace.pg [_] rfl (.loadCol1 ty3 (.gd rfl (fun h => h)) rfl rfl rfl (fun _ => by omega))
                      apply Trace.pg [] rfl (.arith (.gd rfl (fun h => h)) (.gd rfl (fun h => h)) rfl (fun _ => bd64 (by omega)))
                      apply Trace.pg [] rfl (.move (.plain rfl))
                      apply Trace.pg [] rfl ((Pure.cmp (.gd rfl (fun h => h)) (.gd rfl (fun h => h)) rfl).to (y := bv false) (congrArg bv (by have h7 := congrArg (fun z => !z) (decide_eq_true hS.symm); exact h7)))
                      apply Trace.pu [] (.pick (.plain rfl) (.gd rfl (by simp)) (.plain rfl))
                      exact .nil _
                    · rfl
                    · exact keepOK_of hk hn rfl
                    refine WPA.cond rfl (fun hc10 => ?_) (fun hc10 => ?_)
                    · cases hc10
                    · apply WPA.skip
                      apply WPA.region
                      · apply Trace.pu [] (.arith (.plain rfl) (.plain rfl) rfl (fun _ => bd64 (by omega)))
                        apply Trace.pu [] (.move (.plain rfl))
                        exact .nil _
                      · exact keepOK_of hk hn rfl
                      exact ⟨(i + 1, _, _, _), ⟨by show i + 1 ≤ xs.length; omega, hW⟩, by show xs.length - (i + 1) < xs.length - i; omega, St.le_cons rfl (St.le_cons rfl (St.le_cons rfl (St.le_cons rfl (St.le_cons rfl (St.le_cons rfl (St.le_cons rfl (St.le_cons (slI (by show _ = ((i + 1 : Nat) : Int); omega)) (St.le_cons rfl (St.le_cons rfl (St.le_nil _))))))))))⟩
                · have hneg : ¬ a < 0 := of_decide_eq_false hc8
                  have hW : Wlk g g.best e.t f (s + (g.lat.getD e.f.toNat 0 + (g.delTo g.best g.es.length).getD jx 0 - e.d)) := by
                    rcases hW with ⟨h, _⟩ | ⟨h1, h2, h3, h4, h5⟩
                    · omega
                    · refine .inr ⟨he3, he4, h3, h4, ?_⟩
                      have hfa : e.f = a := by rcases hor with h | h; omega; exact h
                      rw [hde, h5, ← hfa]; omega
                  apply WPA.skip
                  apply WPA.seq
                  apply WPA.draw mixed
                  · apply Trace.pu [] (.move (.plain rfl))
                    apply Trace.pu [] (.fieldAddr fl25_0 (.plain rfl) rfl)
                    first | apply Trace.pu [_] (.loadLoc1D ty22 (.plain rfl) rfl rfl) | apply Trace.pu [_] (.loadLoc1 ty22 (.plain rfl) rfl rfl) | apply Trace.pu [] (.loadRp1 ty22 (.plain rfl) rfl) | apply Trace.pu [_] (.loadCol1 ty22 (.plain rfl) rfl rfl rfl (fun _ => by omega))
                    apply Trace.pu [] (.fieldAddr fl44_0 (.plain rfl) rfl)
                    first | apply Trace.pu [_] (.loadLoc1D ty3 (.plain rfl) rfl rfl) | apply Trace.pu [_] (.loadLoc1 ty3 (.plain rfl) rfl rfl) | apply Trace.pu [] (.loadRp1 ty3 (.plain rfl) rfl) | apply Trace.pu [_] (.loadCol1 ty3 (.plain rfl) rfl rfl rfl (fun _ => by omega))
                    first | apply Trace.pu [] (.indexRows el22 (.plain rfl) (.plain rfl) (fun _ => ⟨by omega, by omega⟩)) | apply Trace.pu [] (.indexOwn el22 (.plain rfl) (.plain rfl) (fun _ => ⟨by omega, by omega⟩)) | apply Trace.pu [] (.indexSl el22 (.plain rfl) (.plain rfl) (fun _ => ⟨by omega, by omega⟩))
                    first | apply Trace.pu [_] (.loadLoc1D ty3 (.plain rfl) rfl rfl) | apply Trace.pu [_] (.loadLoc1 ty3 (.plain rfl) rfl rfl) | apply Trace.pu [] (.loadRp1 ty3 (.plain rfl) rfl) | apply Trace.pu [_] (.loadCol1 ty3 (.plain rfl) rfl rfl rfl (fun _ => by omega))
                    apply Trace.pu [] (.fieldAddr fl32_1 (.plain rfl) rfl)
                    first | apply Trace.pu [_] (.loadLoc1D ty22 (.plain rfl) rfl rfl) | apply Trace.pu [_] (.loadLoc1 ty22 (.plain rfl) rfl rfl) | apply Trace.pu [] (.loadRp1 ty22 (.plain rfl) rfl) | apply Trace.pu [_] (.loadCol1 ty22 (.plain rfl) rfl rfl rfl (fun _ => by omega))
                    apply Trace.pu [] (.move (.plain rfl))
                    first | apply Trace.pu [] (.indexRows el22 (.plain rfl) (.plain rfl) (fun _ => ⟨by omega, by omega⟩)) | apply Trace.pu [] (.indexOwn el22 (.plain rfl) (.plain rfl) (fun _ => ⟨by omega, by omega⟩)) | apply Trace.pu [] (.indexSl el22 (.plain rfl) (.plain rfl) (fun _ => ⟨by omega, by omega⟩))
                    first | apply Trace.pu [_] (.loadLoc1D ty3 (.plain rfl) rfl rfl) | apply Trace.pu [_] (.loadLoc1 ty3 (.plain rfl) rfl rfl) | apply Trace.pu [] (.loadRp1 ty3 (.plain rfl) rfl) | apply Trace.pu [_] (.loadCol1 ty3 (.plain rfl) rfl rfl rfl (fun _ => by omega))
                    apply Trace.pu [] (.arith (.plain rfl) (.plain rfl) rfl (fun _ => bd64 (by omega)))
                    apply Trace.pu [] (.fieldAddr fl44_3 (.plain rfl) rfl)
                    first | apply Trace.pu [_] (.loadLoc1D ty3 (.plain rfl) rfl rfl) | apply Trace.pu [_] (.loadLoc1 ty3 (.plain rfl) rfl rfl) | apply Trace.pu [] (.loadRp1 ty3 (.plain rfl) rfl) | apply Trace.pu [_] (.loadCol1 ty3 (.plain rfl) rfl rfl rfl (fun _ => by omega))
                    apply Trace.pu [] (.arith (.plain rfl) (.plain rfl) rfl (fun _ => bd64 (by omega)))
                    apply Trace.pu [] (.arith (.plain rfl) (.plain rfl) rfl (fun _ => bd64 (by omega)))
                    apply Trace.pu [] (.assign (.plain rfl))
                    exact .nil _
                  · rfl
                  · exact keepOK_of hk hn rfl
                  apply WPA.seq
                  apply WPA.region
                  · apply Trace.pu [] (.fieldAddr fl44_1 (.plain rfl) rfl)
                    first | apply Trace.pu [_] (.loadLoc1D ty3 (.plain rfl) rfl rfl) | apply Trace.pu [_] (.loadLoc1 ty3 (.plain rfl) rfl rfl) | apply Trace.pu [] (.loadRp1 ty3 (.plain rfl) rfl) | apply Trace.pu [_] (.loadCol1 ty3 (.plain rfl) rfl rfl rfl (fun _ => by omega))
                    apply Trace.pu [] (.assign (.plain rfl))
                    exact .nil _
                  · exact keepOK_of hk hn rfl
                  apply WPA.exit
                  apply WPA.seq
                  have hW9 := hW
                  rcases hW9 with ⟨hA, hS⟩ | ⟨hA0, hA1, hF0, hF1, hS⟩
                  · apply WPA.draw mixed
                    · apply Trace.pu [] (.move (.plain rfl))
                      apply Trace.pu [] ((Pure.cmp (.plain rfl) (.plain rfl) rfl).to (y := bv false) (congrArg bv (decide_eq_false (by omega))))
                      apply Trace.pu [] (.move (.plain rfl))
                      apply Trace.pg [] rfl (Pure.never (x := bv true) (by intro d h; cases h))
                      apply Trace.pg [] rfl (Pure.never (x := bv true) (by intro d h; cases h))
                      apply Trace.pg [] rfl (Pure.never (x := bv true) (by intro d h; cases h))
                      apply Trace.pg [] rfl (Pure.never (x := bv true) (by intro d h; cases h))
                      apply Trace.pg [] rfl (Pure.never (x := bv true) (by intro d h; cases h))
                      apply Trace.pg [] rfl (Pure.never (x := bv true) (by intro d h; cases h))
                      apply Trace.pg [] rfl (Pure.never (x := bv true) (by intro d h; cases h))
                      apply Trace.pg [] rfl (Pure.never (x := bv true) (by intro d h; cases h))
                      apply Trace.pg [] rfl (Pure.never (x := bv true) (by intro d h; cases h))
                      apply Trace.pg [] rfl (Pure.never (x := bv true) (by intro d h; cases h))
                      apply Trace.pg [] rfl (Pure.never (x := bv true) (by intro d h; cases h))
                      apply Trace.pg [] rfl (Pure.never (x := bv true) (by intro d h; cases h))
                      apply Trace.pg [] rfl (Pure.never (x := bv true) (by intro d h; cases h))
                      apply Trace.pu [] (.pick (.plain rfl) (.gd rfl (by simp)) (.plain rfl))
                      exact .nil _
                    · rfl
                    · exact keepOK_of hk hn rfl
                    refine WPA.cond rfl (fun hc11 => ?_) (fun hc11 => ?_)
                    · cases hc11
                    · apply WPA.skip
                      apply WPA.region
                      · apply Trace.pu [] (.arith (.plain rfl) (.plain rfl) rfl (fun _ => bd64 (by omega)))
                        apply Trace.pu [] (.move (.plain rfl))
                        exact .nil _
                      · exact keepOK_of hk hn rfl
                      exact ⟨(i + 1, _, _, _), ⟨by show i + 1 ≤ xs.length; omega, hW⟩, by show xs.length - (i + 1) < xs.length - i; omega, St.le_cons rfl (St.le_cons rfl (St.le_cons rfl (St.le_cons rfl (St.le_cons rfl (St.le_cons rfl (St.le_cons rfl (St.le_cons (slI (by show _ = ((i + 1 : Nat) : Int); omega)) (St.le_cons rfl (St.le_cons rfl (St.le_nil _))))))))))⟩
                  · apply WPA.draw mixed
                    · apply Trace.pu [] (.move (.plain rfl))
                      apply Trace.pu [] ((Pure.cmp (.plain rfl) (.plain rfl) rfl).to (y := bv true) (congrArg bv (decide_eq_true hA0)))
                      apply Trace.pu [] (.move (.plain rfl))
                      apply Trace.pg [] rfl (.fieldAddr fl32_0 (.plain rfl) rfl)
                      first | apply Trace.pg [_] rfl (.loadLoc1D ty22 (.gd rfl (fun h => h)) rfl rfl) | apply Trace.pg [_] rfl (.loadLoc1 ty22 (.gd rfl (fun h => h)) rfl rfl) | apply Trace.pg [] rfl (.loadRp1 ty22 (.gd rfl (fun h => h)) rfl) | apply Trace.pg [_] rfl (.loadCol1 ty22 (.gd rfl (fun h => h)) rfl rfl rfl (fun _ => by omega))
                      apply Trace.pg [] rfl (.move (.plain rfl))
                      first | apply Trace.pg [] rfl (.indexRows el22 (.gd rfl (fun h => h)) (.gd rfl (fun h => h)) (fun _ => ⟨by omega, by omega⟩)) | apply Trace.pg [] rfl (.indexOwn el22 (.gd rfl (fun h => h)) (.gd rfl (fun h => h)) (fun _ => ⟨by omega, by omega⟩)) | apply Trace.pg [] rfl (.indexSl el22 (.gd rfl (fun h => h)) (.gd rfl (fun h => h)) (fun _ => ⟨by omega, by omega⟩))
                      first | apply Trace.pg [_] rfl (.loadLoc1D ty3 (.gd rfl (fun h => h)) rfl rfl) | apply Trace.pg [_] rfl (.loadLoc1 ty3 (.gd rfl (fun h => h)) rfl rfl) | apply Trace.pg [] rfl (.loadRp1 ty3 (.gd rfl (fun h => h)) rfl) | apply Trace.pg [_] rfl (.loadCol1 ty3 (.gd rfl (fun h => h)) rfl rfl rfl (fun _ => by omega))
                      apply Trace.pg [] rfl (.fieldAddr fl32_0 (.plain rfl) rfl)
                      first | apply Trace.pg [_] rfl (.loadLoc1D ty22 (.gd rfl (fun h => h)) rfl rfl) | apply Trace.pg [_] rfl (.loadLoc1 ty22 (.gd rfl (fun h => h)) rfl rfl) | apply Trace.pg [] rfl (.loadRp1 ty22 (.gd rfl (fun h => h)) rfl) | apply Trace.pg [_] rfl (.loadCol1 ty22 (.gd rfl (fun h => h)) rfl rfl rfl (fun _ => by omega))
                      apply Trace.pg [] rfl (.move (.plain rfl))
                      first | apply Trace.pg [] rfl (.indexRows el22 (.gd rfl (fun h => h)) (.gd rfl (fun h => h)) (fun _ => ⟨by omega, by omega⟩)) | apply Trace.pg [] rfl (.indexOwn el22 (.gd rfl (fun h => h)) (.gd rfl (fun h => h)) (fun _ => ⟨by omega, by omega⟩)) | apply Trace.pg [] rfl (.indexSl el22 (.gd rfl (fun h => h)) (.gd rfl (fun h => h)) (fun _ => ⟨by omega, by omega⟩))
                      first | apply Trace.pg [_] rfl (.loadLoc1D ty3 (.gd rfl (fun h => h)) rfl rfl) | apply Trace.pg [_] rfl (.loadLoc1 ty3 (.gd rfl (fun h => h)) rfl rfl) | apply Trace.pg [] rfl (.loadRp1 ty3 (.gd rfl (fun h => h)) rfl) | apply Trace.pg [_] rfl (.loadCol1 ty3 (.gd rfl (fun h => h)) rfl rfl rfl (fun _ => by omega))
                      apply Trace.pg [] rfl (.arith (.gd rfl (fun h => h)) (.gd rfl (fun h => h)) rfl (fun _ => bd64 (by omega)))
                      apply Trace.pg [] rfl (.move (.plain rfl))
                      apply Trace.pg [] rfl ((Pure.cmp (.gd rfl (fun h => h)) (.gd rfl (fun h => h)) rfl).to (y := bv false) (congrArg bv (by have h7 := congrArg (fun z => !z) (decide_eq_true hS.symm); exact h7)))
                      apply Trace.pu [] (.pick (.plain rfl) (.gd rfl (by simp)) (.plain rfl))
                      exact .nil _
                    · rfl
                    · exact keepOK_of hk hn rfl
                    refine WPA.cond rfl (fun hc12 => ?_) (fun hc12 => ?_)
                    · cases hc12
                    · apply WPA.skip
                      apply WPA.region
                      · apply Trace.pu [] (.arith (.plain rfl) (.plain rfl) rfl (fun _ => bd64 (by omega)))
                        apply Trace.pu [] (.move (.plain rfl))
                        exact .nil _
                      · exact keepOK_of hk hn rfl
                      exact ⟨(i + 1, _, _, _), ⟨by show i + 1 ≤ xs.length; omega, hW⟩, by show xs.length - (i + 1) < xs.length - i; omega, St.le_cons rfl (St.le_cons rfl (St.le_cons rfl (St.le_cons rfl (St.le_cons rfl (St.le_cons rfl (St.le_cons rfl (St.le_cons (slI (by show _ = ((i + 1 : Nat) : Int); omega)) (St.le_cons rfl (St.le_cons rfl (St.le_nil _))))))))))⟩
              · apply WPA.skip
                apply WPA.region
                · apply Trace.pu [] (.arith (.plain rfl) (.plain rfl) rfl (fun _ => bd64 (by omega)))
                  apply Trace.pu [] (.move (.plain rfl))
                  exact .nil _
                · exact keepOK_of hk hn rfl
                exact ⟨k + 1, by omega, by omega, St.le_cons rfl (St.le_cons rfl (St.le_cons rfl (St.le_cons rfl (St.le_cons rfl (St.le_cons rfl (St.le_cons rfl (St.le_cons rfl (St.le_cons rfl (St.le_cons rfl (St.le_cons (slI (by omega)) (St.le_cons rfl (St.le_cons rfl (St.le_nil _)))))))))))))⟩
            · apply WPA.exit
              apply WPA.seq
              have hW9 := hW
              rcases hW9 with ⟨hA, hS⟩ | ⟨hA0, hA1, hF0, hF1, hS⟩
              · apply WPA.draw mixed
                · apply Trace.pu [] (.move (.plain rfl))
                  apply Trace.pu [] ((Pure.cmp (.plain rfl) (.plain rfl) rfl).to (y := bv false) (congrArg bv (decide_eq_false (by omega))))
                  apply Trace.pu [] (.move (.plain rfl))
                  apply Trace.pg [] rfl (Pure.never (x := bv true) (by intro d h; cases h))
                  apply Trace.pg [] rfl (Pure.never (x := bv true) (by intro d h; cases h))
                  apply Trace.pg [] rfl (Pure.never (x := bv true) (by intro d h; cases h))
                  apply Trace.pg [] rfl (Pure.never (x := bv true) (by intro d h; cases h))
                  apply Trace.pg [] rfl (Pure.never (x := bv true) (by intro d h; cases h))
                  apply Trace.pg [] rfl (Pure.never (x := bv true) (by intro d h; cases h))
                  apply Trace.pg [] rfl (Pure.never (x := bv true) (by intro d h; cases h))
                  apply Trace.pg [] rfl (Pure.never (x := bv true) (by intro d h; cases h))
                  apply Trace.pg [] rfl (Pure.never (x := bv true) (by intro d h; cases h))
                  apply Trace.pg [] rfl (Pure.never (x := bv true) (by intro d h; cases h))
                  apply Trace.pg [] rfl (Pure.never (x := bv true) (by intro d h; cases h))
                  apply Trace.pg [] rfl (Pure.never (x := bv true) (by intro d h; cases h))
                  apply Trace.pg [] rfl (Pure.never (x := bv true) (by intro d h; cases h))
                  apply Trace.pu [] (.pick (.plain rfl) (.gd rfl (by simp)) (.plain rfl))
                  exact .nil _
                · rfl
                · exact keepOK_of hk hn rfl
                refine WPA.cond rfl (fun hc13 => ?_) (fun hc13 => ?_)
                · cases hc13
                · apply WPA.skip
                  apply WPA.region
                  · apply Trace.pu [] (.arith (.plain rfl) (.plain rfl) rfl (fun _ => bd64 (by omega)))
                    apply Trace.pu [] (.move (.plain rfl))
                    exact .nil _
                  · exact keepOK_of hk hn rfl
                  exact ⟨(i + 1, _, _, _), ⟨by show i + 1 ≤ xs.length; omega, hW⟩, by show xs.length - (i + 1) < xs.length - i; omega, St.le_cons rfl (St.le_cons rfl (St.le_cons rfl (St.le_cons rfl (St.le_cons rfl (St.le_cons rfl (St.le_cons rfl (St.le_cons (slI (by show _ = ((i + 1 : Nat) : Int); omega)) (St.le_cons rfl (St.le_cons rfl (St.le_nil _))))))))))⟩
              · apply WPA.draw mixed
                · apply Trace.pu [] (.move (.plain rfl))
                  apply Trace.pu [] ((Pure.cmp (.plain rfl) (.plain rfl) rfl).to (y := bv true) (congrArg bv (decide_eq_true hA0)))
                  apply Trace.pu [] (.move (.plain rfl))
                  apply Trace.pg [] rfl (.fieldAddr fl32_0 (.plain rfl) rfl)
                  first | apply Trace.pg [_] rfl (.loadLoc1D ty22 (.gd rfl (fun h => h)) rfl rfl) | apply Trace.pg [_] rfl (.loadLoc1 ty22 (.gd rfl (fun h => h)) rfl rfl) | apply Trace.pg [] rfl (.loadRp1 ty22 (.gd rfl (fun h => h)) rfl) | apply Trace.pg [_] rfl (.loadCol1 ty22 (.gd rfl (fun h => h)) rfl rfl rfl (fun _ => by omega))
                  apply Trace.pg [] rfl (.move (.plain rfl))
                  first | apply Trace.pg [] rfl (.indexRows el22 (.gd rfl (fun h => h)) (.gd rfl (fun h => h)) (fun _ => ⟨by omega, by omega⟩)) | apply Trace.pg [] rfl (.indexOwn el22 (.gd rfl (fun h => h)) (.gd rfl (fun h => h)) (fun _ => ⟨by omega, by omega⟩)) | apply Trace.pg [] rfl (.indexSl el22 (.gd rfl (fun h => h)) (.gd rfl (fun h => h)) (fun _ => ⟨by omega, by omega⟩))
                  first | apply Trace.pg [_] rfl (.loadLoc1D ty3 (.gd rfl (fun h => h)) rfl rfl) | apply Trace.pg [_] rfl (.loadLoc1 ty3 (.gd rfl (fun h => h)) rfl rfl) | apply Trace.pg [] rfl (.loadRp1 ty3 (.gd rfl (fun h => h)) rfl) | apply Trace.pg [_] rfl (.loadCol1 ty3 (.gd rfl (fun h => h)) rfl rfl rfl (fun _ => by omega))
                  apply Trace.pg [] rfl (.fieldAddr fl32_0 (.plain rfl) rfl)
                  first | apply Trace.pg [_] rfl (.loadLoc1D ty22 (.gd rfl (fun h => h)) rfl rfl) | apply Trace.pg [_] rfl (.loadLoc1 ty22 (.gd rfl (fun h => h)) rfl rfl) | apply Trace.pg [] rfl (.loadRp1 ty22 (.gd rfl (fun h => h)) rfl) | apply Trace.pg [_] rfl (.loadCol1 ty22 (.gd rfl (fun h => h)) rfl rfl rfl (fun _ => by omega))
                  apply Trace.pg [] rfl (.move (.plain rfl))
                  first | apply Trace.pg [] rfl (.indexRows el22 (.gd rfl (fun h => h)) (.gd rfl (fun h => h)) (fun _ => ⟨by omega, by omega⟩)) | apply Trace.pg [] rfl (.indexOwn el22 (.gd rfl (fun h => h)) (.gd rfl (fun h => h)) (fun _ => ⟨by omega, by omega⟩)) | apply Trace.pg [] rfl (.indexSl el22 (.gd rfl (fun h => h)) (.gd rfl (fun h => h)) (fun _ => ⟨by omega, by omega⟩))
                  first | apply Trace.pg [_] rfl (.loadLoc1D ty3 (.gd rfl (fun h => h)) rfl rfl) | apply Trace.pg [_] rfl (.loadLoc1 ty3 (.gd rfl (fun h => h)) rfl rfl) | apply Trace.pg [] rfl (.loadRp1 ty3 (.gd rfl (fun h => h)) rfl) | apply Trace.pg [_] rfl (.loadCol1 ty3 (.gd rfl (fun h => h)) rfl rfl rfl (fun _ => by omega))
                  apply Trace.pg [] rfl (.arith (.gd rfl (fun h => h)) (.gd rfl (fun h => h)) rfl (fun _ => bd64 (by omega)))
                  apply Trace.pg [] rfl (.move (.plain rfl))
                  apply Trace.pg [] rfl ((Pure.cmp (.gd rfl (fun h => h)) (.gd rfl (fun h => h)) rfl).to (y := bv false) (congrArg bv (by have h7 := congrArg (fun z => !z) (decide_eq_true hS.symm); exact h7)))
                  apply Trace.pu [] (.pick (.plain rfl) (.gd rfl (by simp)) (.plain rfl))
                  exact .nil _
                · rfl
                · exact keepOK_of hk hn rfl
                refine WPA.cond rfl (fun hc14 => ?_) (fun hc14 => ?_)
                · cases hc14
                · apply WPA.skip
                  apply WPA.region
                  · apply Trace.pu [] (.arith (.plain rfl) (.plain rfl) rfl (fun _ => bd64 (by omega)))
                    apply Trace.pu [] (.move (.plain rfl))
                    exact .nil _
                  · exact keepOK_of hk hn rfl
                  exact ⟨(i + 1, _, _, _), ⟨by show i + 1 ≤ xs.length; omega, hW⟩, by show xs.length - (i + 1) < xs.length - i; omega, St.le_cons rfl (St.le_cons rfl (St.le_cons rfl (St.le_cons rfl (St.le_cons rfl (St.le_cons rfl (St.le_cons rfl (St.le_cons (slI (by show _ = ((i + 1 : Nat) : Int); omega)) (St.le_cons rfl (St.le_cons rfl (St.le_nil _))))))))))⟩
          · apply WPA.exit
            apply WPA.seq
            apply WPA.region
            · apply Trace.pu [] (.assign (.plain rfl))
              exact .nil _
            · exact keepOK_of hk hn rfl
            apply WPA.ret
            refine ⟨.inr rfl, ⟨_, (.cons (.tmp rfl) .nil), ?_⟩, by simp [St.get]⟩
            rfl

/-- soundpost/soundpostlaw23.PlanDelayed -/
theorem spec9 (g : Gr) (hz : g.Sz) (x d : Int) (hx : 0 ≤ x ∧ x ≤ 255) (hd : 0 ≤ d ∧ d ≤ 255) : FnSpec Try.prog 9 [g.av, iv .u8 x, iv .u8 d] [] (bv true) [] [] := by
  have hn1 := hz.n
  have hn2 := hz.m
  refine fnSpec_of (rs := [.tmp 6]) Try.func9 rfl rfl (Nat.le_of_ble_eq_true rfl) (by simp [St.get]) fun E hk hn => ?_
  apply WPA.seq
  apply WPA.region
  · first | apply Trace.boxD 3 [] (.plain rfl) rfl rfl | apply Trace.box 3 [] (.plain rfl) rfl rfl rfl
    apply Trace.pu [] (.assign (.plain rfl))
    exact .nil _
  · exact keepOK_of hk hn rfl
  apply WPA.seq
  apply WPA.seq
  apply WPA.region
  · apply Trace.cu (callArgs0 .nil) spec10 en10
    apply Trace.pu [] (.not (.plain rfl))
    exact .nil _
  · exact keepOK_of hk hn rfl
  refine WPA.cond rfl (fun hc1 => ?_) (fun hc1 => ?_)
  · cases hc1
  · apply WPA.skip
    apply WPA.seq
    apply WPA.seq
    apply WPA.region
    · first | apply Trace.pu [_] (.loadAllD ty25 (.plain rfl) rfl (by simp)) | apply Trace.pu [_] (.loadLocD ty25 (.plain rfl) rfl (fun _ => by simp)) | apply Trace.pu [_] (.loadLoc ty25 (.plain rfl) rfl (fun _ => Nat.le_of_ble_eq_true rfl)) | apply Trace.pu [] (.loadRp ty25 (.plain rfl) (fun _ => by decide)) | apply Trace.pu [] (.loadRp ty25 (.plain rfl) (fun _ => Nat.le_of_ble_eq_true rfl)) | apply Trace.pu [_] (.loadCol ty25 (.plain rfl) rfl rfl (fun _ => by decide) (fun _ => by omega)) | apply Trace.pu [_] (.loadArr ty25 (.plain rfl) rfl)
      apply Trace.cu (callArgs0 (.cons (.plain rfl) .nil)) (spec11 g hz) en11
      apply Trace.pu [] (.not (.plain rfl))
      apply Trace.pu [] (.move (.plain rfl))
      apply Trace.pg [] rfl (.fieldAddr fl25_1 (.plain rfl) rfl)
      first | apply Trace.pg [_] rfl (.loadLoc1D ty23 (.gd rfl (fun h => h)) rfl rfl) | apply Trace.pg [_] rfl (.loadLoc1 ty23 (.gd rfl (fun h => h)) rfl rfl) | apply Trace.pg [] rfl (.loadRp1 ty23 (.gd rfl (fun h => h)) rfl) | apply Trace.pg [_] rfl (.loadCol1 ty23 (.gd rfl (fun h => h)) rfl rfl rfl (fun _ => by omega))
      apply Trace.pg [] rfl (.len rfl Try.underlying23 (.gd rfl (fun h => h)) rfl)
      apply Trace.pg [] rfl (.cmp (.gd rfl (fun h => h)) (.plain rfl) rfl)
      apply Trace.pu [] (.pick (.plain rfl) (.plain rfl) (.gd rfl (by simp)))
      apply Trace.pu [] (.move (.plain rfl))
      first | apply Trace.pg [_] rfl (.loadAllD ty25 (.plain rfl) rfl (by simp)) | apply Trace.pg [_] rfl (.loadLocD ty25 (.plain rfl) rfl (fun _ => by simp)) | apply Trace.pg [_] rfl (.loadLoc ty25 (.plain rfl) rfl (fun _ => Nat.le_of_ble_eq_true rfl)) | apply Trace.pg [] rfl (.loadRp ty25 (.plain rfl) (fun _ => by decide)) | apply Trace.pg [] rfl (.loadRp ty25 (.plain rfl) (fun _ => Nat.le_of_ble_eq_true rfl)) | apply Trace.pg [_] rfl (.loadCol ty25 (.plain rfl) rfl rfl (fun _ => by decide) (fun _ => by omega)) | apply Trace.pg [_] rfl (.loadArr ty25 (.plain rfl) rfl)
      apply Trace.cg rfl (callArgs0 (.cons (.gd rfl (fun h => h)) .nil)) (fun _ => spec21 g hz) en21
      apply Trace.pg [] rfl (.cmp (.gd rfl (fun h => h)) (.plain rfl) rfl)
      apply Trace.pu [] (.pick (.plain rfl) (.plain rfl) (.gd rfl (by simp)))
      exact .nil _
    · exact keepOK_of hk hn rfl
    refine WPA.cond rfl (fun hc2 => ?_) (fun hc2 => ?_)
    · apply WPA.seq
      apply WPA.region
      · apply Trace.pu [] (.assign (.plain rfl))
        exact .nil _
      · exact keepOK_of hk hn rfl
      apply WPA.ret
      refine ⟨.inr rfl, ⟨_, (.cons (.tmp rfl) .nil), ?_⟩, by simp [St.get]⟩
      rfl
    · obtain ⟨hsome, hm0, hC⟩ : g.some = true ∧ 0 < g.es.length ∧ g.check = 0 := by
        have h9 : (bif (bif !g.some then true else decide ((g.es.length : Int) = 0)) then true else !decide (g.check = 0)) = false := hc2
        rw [bif_or, bif_or, Bool.or_eq_false_iff, Bool.or_eq_false_iff, Bool.not_eq_false', Bool.not_eq_false', decide_eq_false_iff_not, decide_eq_true_eq] at h9
        exact ⟨h9.1.1, by omega, h9.2⟩
      have ht := tiny_of hsome
      have hok := g.ok_of (check_formed hC)
      have hsh := check_short hC
      have hm1 := ht.m
      have hm2 := ht.n
      obtain ⟨j, hj⟩ : ∃ j, (x.toNat + 0) % g.es.length = j := ⟨_, rfl⟩
      have hjl : j < g.es.length := by rw [← hj]; exact Nat.mod_lt _ hm0
      obtain ⟨e, he⟩ : ∃ e, g.es.getD j default = e := ⟨_, rfl⟩
      have hem : e ∈ g.es := by rw [← he]; exact (Gr.edge hok hjl).1
      obtain ⟨he1, he2, he3, he4, hw0, hw1, he5, he6, he7, he8⟩ := Gr.edge_mem hok hem
      have hrem : x.tmod (g.es.length : Int) = ((j : Nat) : Int) := by
        have := tmodN x 0 g.es.length hx.1 (by omega) (by omega) hm0
        rw [hj, show x + ((0 : Nat) : Int) = x by omega] at this
        exact this
      obtain ⟨h, hh⟩ : ∃ h, g.grown j d = h := ⟨_, rfl⟩
      have hhl : h.es.length = g.es.length := by rw [← hh]; exact grown_len g j d
      have hhe : ∀ k, k < g.es.length → h.es.getD k default = if j = k then { e with d := e.d + d } else g.es.getD k default := fun k hk => by
        rw [← hh]
        have h1 := grown_ed g j d hjl k
        rw [show g.ed j = e from he] at h1
        exact h1
      apply WPA.skip
      apply WPA.seq
      apply WPA.region
      · apply Trace.pu [] (.move (.plain rfl))
        apply Trace.pu [] ((Pure.conv Try.underlying5 Try.underlying3 (.plain rfl)).to (y := iv .i64 x) (by rw [wrapI (by omega)]))
        apply Trace.pu [] (.fieldAddr fl25_1 (.plain rfl) rfl)
        first | apply Trace.pu [_] (.loadLoc1D ty23 (.plain rfl) rfl rfl) | apply Trace.pu [_] (.loadLoc1 ty23 (.plain rfl) rfl rfl) | apply Trace.pu [] (.loadRp1 ty23 (.plain rfl) rfl) | apply Trace.pu [_] (.loadCol1 ty23 (.plain rfl) rfl rfl rfl (fun _ => by omega))
        apply Trace.pu [] (.len rfl Try.underlying23 (.plain rfl) rfl)
        apply Trace.pu [] ((Pure.rem (.plain rfl) (.plain rfl) (fun _ => by omega)).to (y := iv .i64 (j : Int)) (by rw [hrem]))
        apply Trace.pu [] (.assign (.plain rfl))
        exact .nil _
      · exact keepOK_of hk hn rfl
      apply WPA.seq
      apply WPA.region
      · first | apply Trace.pu [_] (.loadAllD ty25 (.plain rfl) rfl (by simp)) | apply Trace.pu [_] (.loadLocD ty25 (.plain rfl) rfl (fun _ => by simp)) | apply Trace.pu [_] (.loadLoc ty25 (.plain rfl) rfl (fun _ => Nat.le_of_ble_eq_true rfl)) | apply Trace.pu [] (.loadRp ty25 (.plain rfl) (fun _ => by decide)) | apply Trace.pu [] (.loadRp ty25 (.plain rfl) (fun _ => Nat.le_of_ble_eq_true rfl)) | apply Trace.pu [_] (.loadCol ty25 (.plain rfl) rfl rfl (fun _ => by decide) (fun _ => by omega)) | apply Trace.pu [_] (.loadArr ty25 (.plain rfl) rfl)
        apply Trace.alloc 8 [] (.data _) zo25 (cellsAs_data _) rfl
        first | apply Trace.storeD ty25 (.plain rfl) (.plain rfl) rfl rfl (by simp) (by simp [AV.oneB, single, intsD, rowsD]) (by simp) (spliceL_all (by simp)) | apply Trace.storeD ty25 (.plain rfl) (.plain rfl) rfl rfl (by simp) (by simp [AV.oneB, single, intsD, rowsD]) (by simp) rfl | apply Trace.storeDA ty25 (.plain rfl) (.plain rfl) rfl rfl (by simp) (by simp [AV.oneB, single]) (by simp) rfl | apply Trace.storeLoc ty25 (.plain rfl) (.plain rfl) rfl rfl (by simp) (by simp [AV.oneB, single]) (by simp) rfl | apply Trace.storeRow ty25 (.plain rfl) (.plain rfl) rfl rfl rfl rfl (by decide) (by simp [AV.oneB, single]) rfl (by omega)
        exact .nil _
      · exact keepOK_of hk hn rfl
      apply WPA.seq
      apply WPA.region
      · apply Trace.buildSlice 41 [] so23 zo44 rfl (by decide) (by decide) (.nil _ _) rfl rfl rfl
        apply Trace.pu [] (.fieldAddr fl25_1 (.plain rfl) rfl)
        first | apply Trace.pu [_] (.loadLoc1D ty23 (.plain rfl) rfl rfl) | apply Trace.pu [_] (.loadLoc1 ty23 (.plain rfl) rfl rfl) | apply Trace.pu [] (.loadRp1 ty23 (.plain rfl) rfl) | apply Trace.pu [_] (.loadCol1 ty23 (.plain rfl) rfl rfl rfl (fun _ => by omega))
        apply Trace.append 44 [bk 41, sl 41] ap23 kd23 (by decide) (.own (.plain rfl) rfl) (.rows (cs := edgColsI g.es) (.plain rfl) rfl (by intro c hc; simp [edgColsI] at hc; rcases hc with rfl | rfl | rfl | rfl <;> simp [Col.len]) (fun i hi => (edg_rowI hi).symm)) (Col.ones rfl) (labs_ok rfl) (by omega) (by omega) rfl rfl
        apply Trace.pu [] (.fieldAddr fl25_1 (.plain rfl) rfl)
        first | apply Trace.storeD ty23 (.plain rfl) (.plain rfl) rfl rfl rfl (by simp [AV.oneB, single]) (Nat.le_of_ble_eq_true rfl) rfl | apply Trace.storeDA ty23 (.plain rfl) (.plain rfl) rfl rfl rfl (by simp [AV.oneB, single]) (Nat.le_of_ble_eq_true rfl) rfl | apply Trace.storeLoc ty23 (.plain rfl) (.plain rfl) rfl rfl rfl (by simp [AV.oneB, single]) (Nat.le_of_ble_eq_true rfl) rfl | apply Trace.storeRow ty23 (.plain rfl) (.plain rfl) rfl rfl rfl rfl (by decide) (by simp [AV.oneB, single]) rfl (by omega)
        exact .nil _
      · exact keepOK_of hk hn rfl
      apply WPA.seq
      refine WPA.weaken (T := [(sl 2, .av (iv .u8 d)), (sl 3, .av (.loc 3 0)), (sl 7, .av (iv .i64 ((j : Int)))), (sl 8, .av (.loc 8 0)), (bk 3, .blk (.data g.ds)), (bk 8, .blk (.cells [.d (intsD g.lat), .own 44 g.es.length])), (bk 44, .blk (.app 4 g.es.length (edgCols g.es)))]) ?_ (St.le_cons rfl (St.le_cons rfl (St.le_cons rfl (St.le_cons rfl (St.le_cons rfl (St.le_cons (by rw [show 0 + g.es.length = g.es.length by omega]; rfl) (St.le_cons (col4 (by omega) (joinedE g.es)) (St.le_nil _))))))))
      apply WPA.region
      · apply Trace.pu [] (.fieldAddr fl25_1 (.plain rfl) rfl)
        first | apply Trace.pu [_] (.loadLoc1D ty23 (.plain rfl) rfl rfl) | apply Trace.pu [_] (.loadLoc1 ty23 (.plain rfl) rfl rfl) | apply Trace.pu [] (.loadRp1 ty23 (.plain rfl) rfl) | apply Trace.pu [_] (.loadCol1 ty23 (.plain rfl) rfl rfl rfl (fun _ => by omega))
        apply Trace.pu [] (.move (.plain rfl))
        first | apply Trace.pu [] (.indexRows el23 (.plain rfl) (.plain rfl) (fun _ => ⟨by omega, by omega⟩)) | apply Trace.pu [] (.indexOwn el23 (.plain rfl) (.plain rfl) (fun _ => ⟨by omega, by omega⟩)) | apply Trace.pu [] (.indexSl el23 (.plain rfl) (.plain rfl) (fun _ => ⟨by omega, by omega⟩))
        apply Trace.pu [] (.fieldAddr fl44_3 (.plain rfl) rfl)
        apply Trace.pu [44] ((Pure.loadCol1 ty3 (.plain rfl) rfl rfl rfl (fun _ => by omega)).to (y := iv .i64 e.d) (by show AV.d ((g.es.map fun e => (D.v (.int .i64 e.d))).getD j (.v .nilFunc)) = _; rw [getD_map' _ _ default _ hjl, he]))
        apply Trace.pu [] (.move (.plain rfl))
        apply Trace.pu [] ((Pure.conv Try.underlying5 Try.underlying3 (.plain rfl)).to (y := iv .i64 d) (by rw [wrapI (by omega)]))
        apply Trace.pu [] (.arith (.plain rfl) (.plain rfl) rfl (fun _ => bd64 (by omega)))
        first | apply Trace.pu [] (.indexRows el23 (.plain rfl) (.plain rfl) (fun _ => ⟨by omega, by omega⟩)) | apply Trace.pu [] (.indexOwn el23 (.plain rfl) (.plain rfl) (fun _ => ⟨by omega, by omega⟩)) | apply Trace.pu [] (.indexSl el23 (.plain rfl) (.plain rfl) (fun _ => ⟨by omega, by omega⟩))
        apply Trace.pu [] (.fieldAddr fl44_3 (.plain rfl) rfl)
        first | apply Trace.storeD ty3 (.plain rfl) (.plain rfl) rfl rfl rfl (by simp [AV.oneB, single]) (Nat.le_of_ble_eq_true rfl) rfl | apply Trace.storeDA ty3 (.plain rfl) (.plain rfl) rfl rfl rfl (by simp [AV.oneB, single]) (Nat.le_of_ble_eq_true rfl) rfl | apply Trace.storeLoc ty3 (.plain rfl) (.plain rfl) rfl rfl rfl (by simp [AV.oneB, single]) (Nat.le_of_ble_eq_true rfl) rfl | apply Trace.storeRow ty3 (.plain rfl) (.plain rfl) rfl rfl rfl rfl (by decide) (by simp [AV.oneB, single]) rfl (by omega)
        exact .nil _
      · exact keepOK_of hk hn rfl
      apply WPA.seq
      apply WPA.seq
      refine WPA.ghost (Ghost.cellFreeze (lb := 8) (j := 1) (l := 44) (g := fun k => (h.es.getD k default).ds) rfl rfl rfl rfl (fun k hk => by
        show [_, _, _, _] = _
        rw [hhe k hk]
        have hr := edg_row hk
        simp only [edgCols, List.map_cons, List.map_nil] at hr
        injection hr with r1 hr
        injection hr with r2 hr
        injection hr with r3 hr
        injection hr with r4 _
        by_cases hjk : j = k
        · subst hjk
          rw [if_pos rfl]
          rw [he] at r1 r2 r3
          simp only [Edg.ds]
          rw [← r1, ← r2, ← r3]
          congr 4
          simp [Col.at, List.getD_eq_getElem?_getD, hjl]
        · rw [if_neg hjk]
          simp only [Edg.ds]
          rw [← r1, ← r2, ← r3, ← r4]
          congr 4
          simp [Col.at, List.getD_eq_getElem?_getD, List.getElem?_set_ne hjk]) rfl) ?_
      have hhz : h.Sz := by
        refine ⟨by rw [← hh]; exact hz.n, by rw [hhl]; exact hz.m, by rw [← hh]; exact hz.lat, fun q hq => ?_⟩
        obtain ⟨k, hk, rfl⟩ := List.mem_iff_getElem.1 hq
        rw [hhl] at hk
        have h1 := hhe k hk
        rw [getD_lt _ _ (by omega)] at h1
        rw [h1]
        split
        · have := hz.es e hem
          exact ⟨this.1, this.2.1, this.2.2.1, by show _ ≤ e.d + d; omega, by show e.d + d ≤ _; omega⟩
        · refine hz.es _ ?_
          rw [getD_lt _ _ hk]; exact List.getElem_mem hk
      refine WPA.weaken (T := [(sl 2, .av (iv .u8 d)), (sl 3, .av (.loc 3 0)), (sl 7, .av (iv .i64 ((j : Int)))), (sl 8, .av (.loc 8 0)), (bk 3, .blk (.data g.ds)), (bk 8, .blk (.cells [.d (intsD h.lat), .d (edgesD h.es)]))]) ?_ (St.le_cons rfl (St.le_cons rfl (St.le_cons rfl (St.le_cons rfl (St.le_cons rfl (St.le_cons (by rw [edgesD, hhl, ← hh]; rfl) (St.le_nil _)))))))
      apply WPA.region
      · first | apply Trace.pu [_] (.loadAllD ty25 (.plain rfl) rfl (by simp)) | apply Trace.pu [_] (.loadLocD ty25 (.plain rfl) rfl (fun _ => by simp)) | apply Trace.pu [_] (.loadLoc ty25 (.plain rfl) rfl (fun _ => Nat.le_of_ble_eq_true rfl)) | apply Trace.pu [] (.loadRp ty25 (.plain rfl) (fun _ => by decide)) | apply Trace.pu [] (.loadRp ty25 (.plain rfl) (fun _ => Nat.le_of_ble_eq_true rfl)) | apply Trace.pu [_] (.loadCol ty25 (.plain rfl) rfl rfl (fun _ => by decide) (fun _ => by omega)) | apply Trace.pu [_] (.loadArr ty25 (.plain rfl) rfl)
        apply Trace.cu (callArgs0 (.cons (.plain rfl) .nil)) (spec21 h hhz) en21
        apply Trace.pu [] (.cmp (.plain rfl) (.plain rfl) rfl)
        exact .nil _
      · exact keepOK_of hk hn rfl
      refine WPA.cond rfl (fun hc3 => ?_) (fun hc3 => ?_)
      · apply WPA.seq
        apply WPA.region
        · apply Trace.pu [] (.assign (.plain rfl))
          exact .nil _
        · exact keepOK_of hk hn rfl
        apply WPA.ret
        refine ⟨.inr rfl, ⟨_, (.cons (.tmp rfl) .nil), ?_⟩, by simp [St.get]⟩
        rfl
      · have hC2 : h.check = 0 := by simpa using hc3
        have ht2 : h.Tiny := ⟨by rw [← hh]; exact ht.n, by rw [hhl]; exact ht.m⟩
        have hok2 := h.ok_of (check_formed hC2)
        have hsh2 := check_short hC2
        obtain ⟨_, _, hB⟩ := best_mk hok hsh
        obtain ⟨_, _, hB2⟩ := best_mk hok2 hsh2
        have hL := low_spec hok hsh
        have hL2 := low_spec hok2 hsh2
        have hll : g.low.length = g.lat.length := hL.len
        have hll2 : h.low.length = g.lat.length := by rw [hL2.len, ← hh]; rfl
        have hat1 : AtOK g g.best := by have := best_posB hok hsh ht; exact atOK_of (posB_iff this).1 (by unfold Gr.posB at this; simp only [Bool.and_eq_true] at this; exact this.2.1)
        have hmb := tiny_mem hok ht hat1
        have hdw0 : 0 ≤ d * e.w := Int.mul_nonneg hd.1 hw0
        have hdw1 : d * e.w ≤ 16320 := by
          have a1 : d * e.w ≤ 255 * e.w := Int.mul_le_mul_of_nonneg_right hd.2 hw0
          omega
        have hle : ¬ (g.memTo g.best g.es.length + d * e.w < h.memTo h.best h.es.length) := by
          have h1 := hB2.min _ (by rw [← hh]; exact grown_feas hjl hd.1 hB.feas)
          have h2 := grown_mem (d := d) hjl (fn g.best)
          rw [hh, show g.ed j = e from he] at h2
          rw [memTo_mem, memTo_mem]
          omega
        have hlo : ∀ v, v < g.lat.length → ¬ (g.low.getD v 0 < h.low.getD v 0) := fun v hv => by
          have := hL2.least _ (by rw [← hh]; exact grown_feas hjl hd.1 hL.feas) v (by rw [← hh]; exact hv)
          unfold fn at this
          omega
        have k1 : (g.planOf g.best).mem = g.memTo g.best g.es.length := rfl
        apply WPA.skip
        apply WPA.seq
        apply WPA.region
        · first | apply Trace.pu [_] (.loadAllD ty25 (.plain rfl) rfl (by simp)) | apply Trace.pu [_] (.loadLocD ty25 (.plain rfl) rfl (fun _ => by simp)) | apply Trace.pu [_] (.loadLoc ty25 (.plain rfl) rfl (fun _ => Nat.le_of_ble_eq_true rfl)) | apply Trace.pu [] (.loadRp ty25 (.plain rfl) (fun _ => by decide)) | apply Trace.pu [] (.loadRp ty25 (.plain rfl) (fun _ => Nat.le_of_ble_eq_true rfl)) | apply Trace.pu [_] (.loadCol ty25 (.plain rfl) rfl rfl (fun _ => by decide) (fun _ => by omega)) | apply Trace.pu [_] (.loadArr ty25 (.plain rfl) rfl)
          apply Trace.ct (callArgs0 (.cons (.plain rfl) .nil)) (spec22 hz hC ht) en22
          apply Trace.pu [] (.move (.plain rfl))
          apply Trace.pu [] (.extract (.plain rfl) rfl)
          apply Trace.pu [] (.extract (.plain rfl) rfl)
          apply Trace.alloc 9 [] (.data _) zo32 (cellsAs_data _) rfl
          first | apply Trace.storeD ty32 (.plain rfl) (.plain rfl) rfl rfl (by simp) (by simp [AV.oneB, single, intsD, rowsD]) (by simp) (spliceL_all (by simp)) | apply Trace.storeD ty32 (.plain rfl) (.plain rfl) rfl rfl (by simp) (by simp [AV.oneB, single, intsD, rowsD]) (by simp) rfl | apply Trace.storeDA ty32 (.plain rfl) (.plain rfl) rfl rfl (by simp) (by simp [AV.oneB, single]) (by simp) rfl | apply Trace.storeLoc ty32 (.plain rfl) (.plain rfl) rfl rfl (by simp) (by simp [AV.oneB, single]) (by simp) rfl | apply Trace.storeRow ty32 (.plain rfl) (.plain rfl) rfl rfl rfl rfl (by decide) (by simp [AV.oneB, single]) rfl (by omega)
          apply Trace.pu [] (.assign (.plain rfl))
          exact .nil _
        · exact keepOK_of hk hn rfl
        apply WPA.seq
        apply WPA.region
        · first | apply Trace.pu [_] (.loadAllD ty25 (.plain rfl) rfl (by simp)) | apply Trace.pu [_] (.loadLocD ty25 (.plain rfl) rfl (fun _ => by simp)) | apply Trace.pu [_] (.loadLoc ty25 (.plain rfl) rfl (fun _ => Nat.le_of_ble_eq_true rfl)) | apply Trace.pu [] (.loadRp ty25 (.plain rfl) (fun _ => by decide)) | apply Trace.pu [] (.loadRp ty25 (.plain rfl) (fun _ => Nat.le_of_ble_eq_true rfl)) | apply Trace.pu [_] (.loadCol ty25 (.plain rfl) rfl rfl (fun _ => by decide) (fun _ => by omega)) | apply Trace.pu [_] (.loadArr ty25 (.plain rfl) rfl)
          apply Trace.ct (callArgs0 (.cons (.plain rfl) .nil)) (spec22 hhz hC2 ht2) en22
          apply Trace.pu [] (.move (.plain rfl))
          apply Trace.pu [] (.extract (.plain rfl) rfl)
          apply Trace.pu [] (.extract (.plain rfl) rfl)
          apply Trace.alloc 11 [] (.data _) zo32 (cellsAs_data _) rfl
          first | apply Trace.storeD ty32 (.plain rfl) (.plain rfl) rfl rfl (by simp) (by simp [AV.oneB, single, intsD, rowsD]) (by simp) (spliceL_all (by simp)) | apply Trace.storeD ty32 (.plain rfl) (.plain rfl) rfl rfl (by simp) (by simp [AV.oneB, single, intsD, rowsD]) (by simp) rfl | apply Trace.storeDA ty32 (.plain rfl) (.plain rfl) rfl rfl (by simp) (by simp [AV.oneB, single]) (by simp) rfl | apply Trace.storeLoc ty32 (.plain rfl) (.plain rfl) rfl rfl (by simp) (by simp [AV.oneB, single]) (by simp) rfl | apply Trace.storeRow ty32 (.plain rfl) (.plain rfl) rfl rfl rfl rfl (by decide) (by simp [AV.oneB, single]) rfl (by omega)
          apply Trace.pu [] (.assign (.plain rfl))
          exact .nil _
        · exact keepOK_of hk hn rfl
        apply WPA.seq
        apply WPA.region
        · first | apply Trace.pu [_] (.loadAllD ty25 (.plain rfl) rfl (by simp)) | apply Trace.pu [_] (.loadLocD ty25 (.plain rfl) rfl (fun _ => by simp)) | apply Trace.pu [_] (.loadLoc ty25 (.plain rfl) rfl (fun _ => Nat.le_of_ble_eq_true rfl)) | apply Trace.pu [] (.loadRp ty25 (.plain rfl) (fun _ => by decide)) | apply Trace.pu [] (.loadRp ty25 (.plain rfl) (fun _ => Nat.le_of_ble_eq_true rfl)) | apply Trace.pu [_] (.loadCol ty25 (.plain rfl) rfl rfl (fun _ => by decide) (fun _ => by omega)) | apply Trace.pu [_] (.loadArr ty25 (.plain rfl) rfl)
          apply Trace.ct (callArgs0 (.cons (.plain rfl) .nil)) (leastN hz (least_of hC rfl)) en12
          apply Trace.pu [] (.move (.plain rfl))
          apply Trace.pu [] (.extract (.plain rfl) rfl)
          apply Trace.pu [] (.extract (.plain rfl) rfl)
          apply Trace.pu [] (.assign (.plain rfl))
          apply Trace.pu [] (.assign (.plain rfl))
          exact .nil _
        · exact keepOK_of hk hn rfl
        apply WPA.seq
        apply WPA.region
        · first | apply Trace.pu [_] (.loadAllD ty25 (.plain rfl) rfl (by simp)) | apply Trace.pu [_] (.loadLocD ty25 (.plain rfl) rfl (fun _ => by simp)) | apply Trace.pu [_] (.loadLoc ty25 (.plain rfl) rfl (fun _ => Nat.le_of_ble_eq_true rfl)) | apply Trace.pu [] (.loadRp ty25 (.plain rfl) (fun _ => by decide)) | apply Trace.pu [] (.loadRp ty25 (.plain rfl) (fun _ => Nat.le_of_ble_eq_true rfl)) | apply Trace.pu [_] (.loadCol ty25 (.plain rfl) rfl rfl (fun _ => by decide) (fun _ => by omega)) | apply Trace.pu [_] (.loadArr ty25 (.plain rfl) rfl)
          apply Trace.ct (callArgs0 (.cons (.plain rfl) .nil)) (leastN hhz (least_of hC2 rfl)) en12
          apply Trace.pu [] (.move (.plain rfl))
          apply Trace.pu [] (.extract (.plain rfl) rfl)
          apply Trace.pu [] (.extract (.plain rfl) rfl)
          apply Trace.pu [] (.assign (.plain rfl))
          apply Trace.pu [] (.assign (.plain rfl))
          exact .nil _
        · exact keepOK_of hk hn rfl
        apply WPA.seq
        apply WPA.seq
        apply WPA.draw mixed
        · apply Trace.pu [] (.move (.plain rfl))
          apply Trace.pu [] (.not (.plain rfl))
          apply Trace.pu [] (.move (.plain rfl))
          apply Trace.pg [] rfl (.move (.plain rfl))
          apply Trace.pg [] rfl (.not (.gd rfl (fun h => h)))
          apply Trace.pu [] (.pick (.plain rfl) (.plain rfl) (.gd rfl (by simp)))
          apply Trace.pu [] (.move (.plain rfl))
          apply Trace.pg [] rfl (.move (.plain rfl))
          apply Trace.pg [] rfl (.cmp (.gd rfl (fun h => h)) (.plain rfl) rfl)
          apply Trace.pu [] (.pick (.plain rfl) (.plain rfl) (.gd rfl (by simp)))
          apply Trace.pu [] (.move (.plain rfl))
          apply Trace.pg [] rfl (.move (.plain rfl))
          apply Trace.pg [] rfl (.cmp (.gd rfl (fun h => h)) (.plain rfl) rfl)
          apply Trace.pu [] (.pick (.plain rfl) (.plain rfl) (.gd rfl (by simp)))
          apply Trace.pu [] (.move (.plain rfl))
          apply Trace.pg [] rfl (.move (.plain rfl))
          apply Trace.pg [] rfl (.len rfl Try.underlying22 (.gd rfl (fun h => h)) rfl)
          apply Trace.pg [] rfl (.move (.plain rfl))
          apply Trace.pg [] rfl (.len rfl Try.underlying22 (.gd rfl (fun h => h)) rfl)
          apply Trace.pg [] rfl ((Pure.cmp (.gd rfl (fun h => h)) (.gd rfl (fun h => h)) rfl).to (y := bv false) (congrArg bv (by show (!decide (((g.low.length : Nat) : Int) = ((h.low.length : Nat) : Int))) = false; rw [decide_eq_true (by omega)]; rfl)))
          apply Trace.pu [] (.pick (.plain rfl) (.plain rfl) (.gd rfl (by simp)))
          apply Trace.pu [] (.move (.plain rfl))
          apply Trace.pg [] rfl (.fieldAddr fl32_2 (.plain rfl) rfl)
          first | apply Trace.pg [_] rfl (.loadLoc1D ty3 (.gd rfl (fun h => h)) rfl rfl) | apply Trace.pg [_] rfl (.loadLoc1 ty3 (.gd rfl (fun h => h)) rfl rfl) | apply Trace.pg [] rfl (.loadRp1 ty3 (.gd rfl (fun h => h)) rfl) | apply Trace.pg [_] rfl (.loadCol1 ty3 (.gd rfl (fun h => h)) rfl rfl rfl (fun _ => by omega))
          apply Trace.pg [] rfl (.fieldAddr fl32_2 (.plain rfl) rfl)
          first | apply Trace.pg [_] rfl (.loadLoc1D ty3 (.gd rfl (fun h => h)) rfl rfl) | apply Trace.pg [_] rfl (.loadLoc1 ty3 (.gd rfl (fun h => h)) rfl rfl) | apply Trace.pg [] rfl (.loadRp1 ty3 (.gd rfl (fun h => h)) rfl) | apply Trace.pg [_] rfl (.loadCol1 ty3 (.gd rfl (fun h => h)) rfl rfl rfl (fun _ => by omega))
          apply Trace.pg [] rfl (.move (.plain rfl))
          apply Trace.pg [] rfl ((Pure.conv Try.underlying5 Try.underlying3 (.gd rfl (fun h => h))).to (y := iv .i64 d) (by rw [wrapI (by omega)]))
          apply Trace.pg [] rfl (.fieldAddr fl25_1 (.plain rfl) rfl)
          first | apply Trace.pg [_] rfl (.loadLoc1D ty23 (.gd rfl (fun h => h)) rfl rfl) | apply Trace.pg [_] rfl (.loadLoc1 ty23 (.gd rfl (fun h => h)) rfl rfl) | apply Trace.pg [] rfl (.loadRp1 ty23 (.gd rfl (fun h => h)) rfl) | apply Trace.pg [_] rfl (.loadCol1 ty23 (.gd rfl (fun h => h)) rfl rfl rfl (fun _ => by omega))
          apply Trace.pg [] rfl (.move (.plain rfl))
          apply Trace.pg [] rfl ((Pure.indexRows el23 (.gd rfl (fun h => h)) (.gd rfl (fun h => h)) (fun _ => ⟨by omega, by omega⟩)).to (y := .rp e.ds) (by show AV.rp (g.es.getD j default).ds = _; rw [he]))
          apply Trace.pg [] rfl (.fieldAddr fl44_2 (.gd rfl (fun h => h)) rfl)
          first | apply Trace.pg [_] rfl (.loadLoc1D ty3 (.gd rfl (fun h => h)) rfl rfl) | apply Trace.pg [_] rfl (.loadLoc1 ty3 (.gd rfl (fun h => h)) rfl rfl) | apply Trace.pg [] rfl (.loadRp1 ty3 (.gd rfl (fun h => h)) rfl) | apply Trace.pg [_] rfl (.loadCol1 ty3 (.gd rfl (fun h => h)) rfl rfl rfl (fun _ => by omega))
          apply Trace.pg [] rfl (.arith (.gd rfl (fun h => h)) (.gd rfl (fun h => h)) rfl (fun _ => bd64 (by omega)))
          apply Trace.pg [] rfl (.arith (.gd rfl (fun h => h)) (.gd rfl (fun h => h)) rfl (fun _ => bd64 (by omega)))
          apply Trace.pg [] rfl ((Pure.cmp (.gd rfl (fun h => h)) (.gd rfl (fun h => h)) rfl).to (y := bv false) (congrArg bv (decide_eq_false hle)))
          apply Trace.pu [] (.pick (.plain rfl) (.plain rfl) (.gd rfl (by simp)))
          exact .nil _
        · rfl
        · exact keepOK_of hk hn rfl
        refine WPA.cond rfl (fun hc4 => ?_) (fun hc4 => ?_)
        · cases hc4
        · apply WPA.skip
          apply WPA.seq
          apply WPA.seq
          apply WPA.region
          · apply Trace.pu [] (.move (.plain rfl))
            apply Trace.pu [] (.len rfl Try.underlying22 (.plain rfl) rfl)
            apply Trace.pu [] (.move (.plain rfl))
            exact .nil _
          · exact keepOK_of hk hn rfl
          apply WPA.block
          refine WPA.loop (σ := Nat) (fun i => [(sl 3, .av (.loc 3 0)), (sl 13, .av (.d (intsD g.low))), (sl 15, .av (.d (intsD h.low))), (sl 119, .av (iv .i64 (g.low.length))), (sl 120, .av (iv .i64 (i))), (bk 3, .blk (.data g.ds))]) (fun i => i ≤ g.low.length) (fun i => g.low.length - i) 0
            (St.le_cons rfl (St.le_cons rfl (St.le_cons rfl (St.le_cons rfl (St.le_cons rfl (St.le_cons rfl (St.le_nil _))))))) (Nat.zero_le _) fun i hi => ?_
          apply WPA.seq
          apply WPA.region
          · apply Trace.pu [] (.cmp (.plain rfl) (.plain rfl) rfl)
            exact .nil _
          · exact keepOK_of hk hn rfl
          apply WPA.seq
          refine WPA.cond rfl (fun hc5 => ?_) (fun hc5 => ?_)
          · have hlt : i < g.low.length := by simpa using hc5
            have hlv := hlo i (by omega)
            apply WPA.skip
            apply WPA.seq
            apply WPA.block
            apply WPA.seq
            apply WPA.region
            · apply Trace.pu [] (.move (.plain rfl))
              apply Trace.pu [] (.assign (.plain rfl))
              exact .nil _
            · exact keepOK_of hk hn rfl
            apply WPA.seq
            apply WPA.draw mixed
            · apply Trace.pu [] (.move (.plain rfl))
              apply Trace.pu [] (.move (.plain rfl))
              first | apply Trace.pu [] (.indexRows el22 (.plain rfl) (.plain rfl) (fun _ => ⟨by omega, by omega⟩)) | apply Trace.pu [] (.indexOwn el22 (.plain rfl) (.plain rfl) (fun _ => ⟨by omega, by omega⟩)) | apply Trace.pu [] (.indexSl el22 (.plain rfl) (.plain rfl) (fun _ => ⟨by omega, by omega⟩))
              first | apply Trace.pu [_] (.loadLoc1D ty3 (.plain rfl) rfl rfl) | apply Trace.pu [_] (.loadLoc1 ty3 (.plain rfl) rfl rfl) | apply Trace.pu [] (.loadRp1 ty3 (.plain rfl) rfl) | apply Trace.pu [_] (.loadCol1 ty3 (.plain rfl) rfl rfl rfl (fun _ => by omega))
              apply Trace.pu [] (.move (.plain rfl))
              apply Trace.pu [] (.move (.plain rfl))
              first | apply Trace.pu [] (.indexRows el22 (.plain rfl) (.plain rfl) (fun _ => ⟨by omega, by omega⟩)) | apply Trace.pu [] (.indexOwn el22 (.plain rfl) (.plain rfl) (fun _ => ⟨by omega, by omega⟩)) | apply Trace.pu [] (.indexSl el22 (.plain rfl) (.plain rfl) (fun _ => ⟨by omega, by omega⟩))
              first | apply Trace.pu [_] (.loadLoc1D ty3 (.plain rfl) rfl rfl) | apply Trace.pu [_] (.loadLoc1 ty3 (.plain rfl) rfl rfl) | apply Trace.pu [] (.loadRp1 ty3 (.plain rfl) rfl) | apply Trace.pu [_] (.loadCol1 ty3 (.plain rfl) rfl rfl rfl (fun _ => by omega))
              apply Trace.pu [] ((Pure.cmp (.plain rfl) (.plain rfl) rfl).to (y := bv false) (congrArg bv (decide_eq_false hlv)))
              exact .nil _
            · rfl
            · exact keepOK_of hk hn rfl
            refine WPA.cond rfl (fun hc6 => ?_) (fun hc6 => ?_)
            · cases hc6
            · apply WPA.skip
              apply WPA.region
              · apply Trace.pu [] (.arith (.plain rfl) (.plain rfl) rfl (fun _ => bd64 (by omega)))
                apply Trace.pu [] (.move (.plain rfl))
                exact .nil _
              · exact keepOK_of hk hn rfl
              exact ⟨i + 1, by omega, by omega, St.le_cons rfl (St.le_cons rfl (St.le_cons rfl (St.le_cons rfl (St.le_cons (slI (by omega)) (St.le_cons rfl (St.le_nil _))))))⟩
          · apply WPA.exit
            apply WPA.seq
            apply WPA.region
            · apply Trace.pu [] (.assign (.plain rfl))
              exact .nil _
            · exact keepOK_of hk hn rfl
            apply WPA.ret
            refine ⟨.inr rfl, ⟨_, (.cons (.tmp rfl) .nil), ?_⟩, by simp [St.get]⟩
            rfl

end Go.Proofs.Ytkieenlidehdgaa

