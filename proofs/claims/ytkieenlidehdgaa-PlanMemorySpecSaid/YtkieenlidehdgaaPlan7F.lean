/- longest. -/
import Derived.Test.YtkieenlidehdgaaPlan6F
namespace Go.Proofs.Ytkieenlidehdgaa
open Go
set_option linter.unusedVariables false
set_option linter.unusedSimpArgs false
set_option maxRecDepth 10000
set_option maxHeartbeats 1000000

def lresA (g : Gr) (fl : List Int) : D := if (g.net fl).run.node < 0 then intsD (g.net fl).run.at_ else .v (.slice none 0 0)
def lresC (g : Gr) (fl : List Int) : D := if (g.net fl).run.node < 0 then .v (.slice none 0 0) else arcsD (g.net fl).cyc
theorem col5 {n : Nat} {cs ds : List Col} (h : cs = ds) : some (Cont.blk (.app 5 n cs)) = some (Cont.blk (.app 5 n ds)) := by rw [h]
theorem mapF {l : List Arc} {i : Nat} (h : i < l.length) : (l.map (·.f)).getD i 0 = (l.getD i default).f := getD_map' _ _ default _ h
theorem mapT {l : List Arc} {i : Nat} (h : i < l.length) : (l.map (·.t)).getD i 0 = (l.getD i default).t := getD_map' _ _ default _ h
theorem mapB {l : List Arc} {i : Nat} (h : i < l.length) : (l.map (·.by_)).getD i 0 = (l.getD i default).by_ := getD_map' _ _ default _ h
theorem mapE {l : List Arc} {i : Nat} (h : i < l.length) : (l.map (·.e)).getD i 0 = (l.getD i default).e := getD_map' _ _ default _ h
theorem mapK {l : List Arc} {i : Nat} (h : i < l.length) : (l.map (·.b)).getD i false = (l.getD i default).b := getD_map' _ _ default _ h
/-- soundpost/plan.longest -/
theorem spec24 {g : Gr} (hok : g.OK) {fl : List Int} (hfl : fl.length = g.es.length) : FnSpec Try.prog 24 [g.av, .own 0 g.es.length] [(bk 0, .blk (.app 1 g.es.length [.ints .i64 fl]))] (.tup [.d (lresA g fl), .d (lresC g fl)]) [(bk 0, .blk (.app 1 g.es.length [.ints .i64 fl]))] [0] := by
  have hn1 := hok.n
  have hn2 := hok.m
  have hN := net_ok hok fl
  have hN1 : (g.net fl).n ≤ 4096 := hok.n
  have hN2 : (g.net fl).as.length ≤ 32768 := by have := net_len g fl; omega
  refine fnSpec_of_marks (rs := [.cell 4 50, .tmp 5]) Try.func24 rfl rfl (Nat.le_of_ble_eq_true rfl) (odd_of rfl) fun E hk hn => ?_
  apply WPA.seq
  apply WPA.region
  · apply Trace.boxD 2 [] (.plain rfl) rfl rfl
    apply Trace.alloc 4 [] (.data _) zo50 (cellsAs_data _) rfl
    apply Trace.pu [] (.assign (.plain rfl))
    exact .nil _
  · exact keepOK_of hk hn rfl
  apply WPA.scope
  apply WPA.seq
  apply WPA.region
  · apply Trace.pu [] (.fieldAddr fl25_0 (.plain rfl) rfl)
    first | apply Trace.pu [_] (.loadLoc1D ty22 (.plain rfl) rfl rfl) | apply Trace.pu [_] (.loadLoc1 ty22 (.plain rfl) rfl rfl) | apply Trace.pu [] (.loadRp1 ty22 (.plain rfl) rfl) | apply Trace.pu [_] (.loadCol1 ty22 (.plain rfl) rfl rfl rfl (fun _ => by omega))
    apply Trace.pu [] (.len rfl Try.underlying22 (.plain rfl) rfl)
    apply Trace.pu [] (.assign (.plain rfl))
    exact .nil _
  · exact keepOK_of hk hn rfl
  apply WPA.seq
  apply WPA.region
  · apply Trace.pu [] (.move (.plain rfl))
    apply Trace.makeSlice 16 [] so50 by3 zo3 rfl (by decide) (.plain rfl) (.plain rfl) ⟨by omega, by omega⟩ (by omega) (by omega) rfl rfl
    first | apply Trace.storeD ty50 (.plain rfl) (.plain rfl) rfl rfl rfl (by simp [AV.oneB, single]) (Nat.le_of_ble_eq_true rfl) rfl | apply Trace.storeDA ty50 (.plain rfl) (.plain rfl) rfl rfl rfl (by simp [AV.oneB, single]) (Nat.le_of_ble_eq_true rfl) rfl | apply Trace.storeLoc ty50 (.plain rfl) (.plain rfl) rfl rfl rfl (by simp [AV.oneB, single]) (Nat.le_of_ble_eq_true rfl) rfl | apply Trace.storeRow ty50 (.plain rfl) (.plain rfl) rfl rfl rfl rfl (by decide) (by simp [AV.oneB, single]) rfl (by omega)
    exact .nil _
  · exact keepOK_of hk hn rfl
  apply WPA.seq
  apply WPA.region
  · apply Trace.pu [] (.move (.plain rfl))
    apply Trace.makeSlice 18 [] so51 by61 zo61 rfl (by decide) (.plain rfl) (.plain rfl) ⟨by omega, by omega⟩ (by omega) (by omega) rfl rfl
    apply Trace.alloc 7 [] (.data _) zo51 (cellsAs_data _) rfl
    first | apply Trace.storeD ty51 (.plain rfl) (.plain rfl) rfl rfl rfl (by simp [AV.oneB, single]) (Nat.le_of_ble_eq_true rfl) rfl | apply Trace.storeDA ty51 (.plain rfl) (.plain rfl) rfl rfl rfl (by simp [AV.oneB, single]) (Nat.le_of_ble_eq_true rfl) rfl | apply Trace.storeLoc ty51 (.plain rfl) (.plain rfl) rfl rfl rfl (by simp [AV.oneB, single]) (Nat.le_of_ble_eq_true rfl) rfl | apply Trace.storeRow ty51 (.plain rfl) (.plain rfl) rfl rfl rfl rfl (by decide) (by simp [AV.oneB, single]) rfl (by omega)
    exact .nil _
  · exact keepOK_of hk hn rfl
  apply WPA.seq
  apply WPA.label
  apply WPA.seq
  apply WPA.region
  · apply Trace.pu [] (.assign (.plain rfl))
    exact .nil _
  · exact keepOK_of hk hn rfl
  apply WPA.block
  refine WPA.loop (σ := Nat) (fun i => [(sl 1, .av (.own 0 g.es.length)), (sl 2, .av (.loc 2 0)), (sl 4, .av (.loc 4 0)), (sl 5, .av (.d (.v (.slice none 0 0)))), (sl 6, .av (iv .i64 (g.lat.length))), (sl 7, .av (.loc 7 0)), (sl 8, .av (iv .i64 (i))), (bk 0, .blk (.app 1 g.es.length [.ints .i64 fl])), (bk 2, .blk (.data g.ds)), (bk 4, .blk (.cells [.own 16 g.lat.length])), (bk 16, .blk (.app 1 g.lat.length [.ints .i64 ((g.net fl).stt i).at_])), (bk 7, .blk (.cells [.own 18 g.lat.length])), (bk 18, .blk (.app 5 g.lat.length (arcCols ((g.net fl).stt i).lst)))]) (fun i => i ≤ g.lat.length ∧ (g.net fl).loud i) (fun i => g.lat.length - i) 0
    (St.le_cons rfl (St.le_cons rfl (St.le_cons rfl (St.le_cons rfl (St.le_cons rfl (St.le_cons rfl (St.le_cons rfl (St.le_cons rfl (St.le_cons rfl (St.le_cons rfl (St.le_cons rfl (St.le_cons rfl (St.le_cons (col5 (by simp only [arcCols, Net.stt, Net.start, Gr.net, List.map_replicate]; rfl)) (St.le_nil _)))))))))))))) ⟨Nat.zero_le _, fun j h1 h2 => by omega⟩ fun k hk0 => ?_
  apply WPA.seq
  apply WPA.block
  apply WPA.seq
  apply WPA.region
  · apply Trace.alloc 9 [] (.data _) zo3 (cellsAs_data _) rfl
    first | apply Trace.storeD ty3 (.plain rfl) (.plain rfl) rfl rfl rfl (by simp [AV.oneB, single]) (Nat.le_of_ble_eq_true rfl) rfl | apply Trace.storeDA ty3 (.plain rfl) (.plain rfl) rfl rfl rfl (by simp [AV.oneB, single]) (Nat.le_of_ble_eq_true rfl) rfl | apply Trace.storeLoc ty3 (.plain rfl) (.plain rfl) rfl rfl rfl (by simp [AV.oneB, single]) (Nat.le_of_ble_eq_true rfl) rfl | apply Trace.storeRow ty3 (.plain rfl) (.plain rfl) rfl rfl rfl rfl (by decide) (by simp [AV.oneB, single]) rfl (by omega)
    exact .nil _
  · exact keepOK_of hk hn rfl
  apply WPA.seq
  apply WPA.seq
  apply WPA.region
  · first | apply Trace.pu [_] (.loadAllD ty25 (.plain rfl) rfl (by simp)) | apply Trace.pu [_] (.loadLocD ty25 (.plain rfl) rfl (fun _ => by simp)) | apply Trace.pu [_] (.loadLoc ty25 (.plain rfl) rfl (fun _ => Nat.le_of_ble_eq_true rfl)) | apply Trace.pu [] (.loadRp ty25 (.plain rfl) (fun _ => by decide)) | apply Trace.pu [] (.loadRp ty25 (.plain rfl) (fun _ => Nat.le_of_ble_eq_true rfl)) | apply Trace.pu [_] (.loadCol ty25 (.plain rfl) rfl rfl (fun _ => by decide) (fun _ => by omega)) | apply Trace.pu [_] (.loadArr ty25 (.plain rfl) rfl)
    apply Trace.pu [] (.move (.plain rfl))
    apply Trace.cb [60, 61] [bk 0] (callArgs0 (.cons (.plain rfl) (.cons (.plain rfl) .nil))) (spec37 g fl g.es.length) en37 (.cons rfl .nil) rfl rfl
    exact .nil _
  · exact keepOK_of hk hn rfl
  apply WPA.block
  refine WPA.rangeFunc (L := 70) (ts := tsL) (ts' := tsL) (new := []) (ds := [bk 60, bk 61, bk 0, bk 4, bk 16, bk 7, bk 18, bk 9]) rfl rfl rfl en48 (.cons rfl (.cons rfl (.cons rfl (.nil)))) hn rfl rfl (by rw [hk]; decide) (by simp) (itL hok hfl (s0 := (g.net fl).stt k) (fun k2 hk2 a ha => ?_)) (.cons rfl (.cons rfl (.cons rfl (.cons rfl (.cons rfl (.cons rfl (.cons rfl (.cons rfl (.cons rfl (.nil)))))))))) rfl rfl rfl rfl (by simp) ?_
  · have hG := lpassTo_good hN hN1 hN2 (k := k) (i := k2) hk0.1 (by omega)
    rw [Net.passTo_succ _ _ hk2, ha]
    have hga : a ∈ (g.net fl).as := by rw [← ha]; exact (Net.arc hN hk2).1
    have hab := hN.as a hga
    generalize (g.net fl).passTo ((g.net fl).stt k) k2 = s at hG ⊢
    have hab1 : 0 ≤ a.f ∧ a.f < g.lat.length := hab.1
    have hab2 : 0 ≤ a.t ∧ a.t < g.lat.length := hab.2.1
    have hla : s.at_.length = g.lat.length := hG.la
    have hll : s.lst.length = g.lat.length := hG.ll
    have hb1 := hG.bd a.f.toNat
    have hb2 := hG.bd a.t.toNat
    refine ySpec_of (pe := none) (S1 := [(sl 10, .av (.loc 10 0)), (sl 4, .av (.loc 4 0)), (sl 7, .av (.loc 7 0)), (sl 9, .av (.loc 9 0)), (bk 10, .blk (.data a.ds)), (bk 4, .blk (.cells [.own 16 g.lat.length])), (bk 16, .blk (.app 1 g.lat.length [.ints .i64 (s).at_])), (bk 7, .blk (.cells [.own 18 g.lat.length])), (bk 18, .blk (.app 5 g.lat.length (arcCols (s).lst))), (bk 9, .blk (.data [.v (.int .i64 (s).node)]))]) rfl rfl rfl rfl rfl rfl rfl rfl ?_ ?_
    · intro E l hk hn
      apply WPA.region
      · apply Trace.alloc 10 [] (.data _) zo61 (cellsAs_data _) rfl
        first | apply Trace.storeD ty61 (.plain rfl) (.plain rfl) rfl rfl (by simp) (by simp [AV.oneB, single]) (by simp) (spliceL_all (by simp)) | apply Trace.storeD ty61 (.plain rfl) (.plain rfl) rfl rfl (by simp) (by simp [AV.oneB, single]) (by simp) rfl | apply Trace.storeDA ty61 (.plain rfl) (.plain rfl) rfl rfl (by simp) (by simp [AV.oneB, single]) (by simp) rfl | apply Trace.storeLoc ty61 (.plain rfl) (.plain rfl) rfl rfl (by simp) (by simp [AV.oneB, single]) (by simp) rfl | apply Trace.storeRow ty61 (.plain rfl) (.plain rfl) rfl rfl rfl rfl (by decide) (by simp [AV.oneB, single]) rfl (by omega)
        exact .nil _
      · exact keepOK_of hk hn rfl
      exact ⟨rfl, St.le_cons rfl (St.le_cons rfl (St.le_cons rfl (St.le_cons rfl (St.le_cons rfl (St.le_cons rfl (St.le_cons rfl (St.le_cons rfl (St.le_cons rfl (St.le_cons rfl (St.le_nil _))))))))))⟩
    · intro E l hk hn
      apply WPA.block
      apply WPA.seq
      apply WPA.draw mixed
      · first | apply Trace.pu [_] (.loadLoc1D ty50 (.plain rfl) rfl rfl) | apply Trace.pu [_] (.loadLoc1 ty50 (.plain rfl) rfl rfl) | apply Trace.pu [] (.loadRp1 ty50 (.plain rfl) rfl) | apply Trace.pu [_] (.loadCol1 ty50 (.plain rfl) rfl rfl rfl (fun _ => by omega))
        apply Trace.pu [] (.fieldAddr fl61_0 (.plain rfl) rfl)
        first | apply Trace.pu [_] (.loadLoc1D ty3 (.plain rfl) rfl rfl) | apply Trace.pu [_] (.loadLoc1 ty3 (.plain rfl) rfl rfl) | apply Trace.pu [] (.loadRp1 ty3 (.plain rfl) rfl) | apply Trace.pu [_] (.loadCol1 ty3 (.plain rfl) rfl rfl rfl (fun _ => by omega))
        first | apply Trace.pu [] (.indexRows el50 (.plain rfl) (.plain rfl) (fun _ => ⟨by omega, by omega⟩)) | apply Trace.pu [] (.indexOwn el50 (.plain rfl) (.plain rfl) (fun _ => ⟨by omega, by omega⟩)) | apply Trace.pu [] (.indexSl el50 (.plain rfl) (.plain rfl) (fun _ => ⟨by omega, by omega⟩))
        first | apply Trace.pu [_] (.loadLoc1D ty3 (.plain rfl) rfl rfl) | apply Trace.pu [_] (.loadLoc1 ty3 (.plain rfl) rfl rfl) | apply Trace.pu [] (.loadRp1 ty3 (.plain rfl) rfl) | apply Trace.pu [_] (.loadCol1 ty3 (.plain rfl) rfl rfl rfl (fun _ => by omega))
        apply Trace.pu [] (.fieldAddr fl61_2 (.plain rfl) rfl)
        first | apply Trace.pu [_] (.loadLoc1D ty3 (.plain rfl) rfl rfl) | apply Trace.pu [_] (.loadLoc1 ty3 (.plain rfl) rfl rfl) | apply Trace.pu [] (.loadRp1 ty3 (.plain rfl) rfl) | apply Trace.pu [_] (.loadCol1 ty3 (.plain rfl) rfl rfl rfl (fun _ => by omega))
        apply Trace.pu [] (.arith (.plain rfl) (.plain rfl) rfl (fun _ => bd64 (by omega)))
        first | apply Trace.pu [_] (.loadLoc1D ty50 (.plain rfl) rfl rfl) | apply Trace.pu [_] (.loadLoc1 ty50 (.plain rfl) rfl rfl) | apply Trace.pu [] (.loadRp1 ty50 (.plain rfl) rfl) | apply Trace.pu [_] (.loadCol1 ty50 (.plain rfl) rfl rfl rfl (fun _ => by omega))
        apply Trace.pu [] (.fieldAddr fl61_1 (.plain rfl) rfl)
        first | apply Trace.pu [_] (.loadLoc1D ty3 (.plain rfl) rfl rfl) | apply Trace.pu [_] (.loadLoc1 ty3 (.plain rfl) rfl rfl) | apply Trace.pu [] (.loadRp1 ty3 (.plain rfl) rfl) | apply Trace.pu [_] (.loadCol1 ty3 (.plain rfl) rfl rfl rfl (fun _ => by omega))
        first | apply Trace.pu [] (.indexRows el50 (.plain rfl) (.plain rfl) (fun _ => ⟨by omega, by omega⟩)) | apply Trace.pu [] (.indexOwn el50 (.plain rfl) (.plain rfl) (fun _ => ⟨by omega, by omega⟩)) | apply Trace.pu [] (.indexSl el50 (.plain rfl) (.plain rfl) (fun _ => ⟨by omega, by omega⟩))
        first | apply Trace.pu [_] (.loadLoc1D ty3 (.plain rfl) rfl rfl) | apply Trace.pu [_] (.loadLoc1 ty3 (.plain rfl) rfl rfl) | apply Trace.pu [] (.loadRp1 ty3 (.plain rfl) rfl) | apply Trace.pu [_] (.loadCol1 ty3 (.plain rfl) rfl rfl rfl (fun _ => by omega))
        apply Trace.pu [] (.cmp (.plain rfl) (.plain rfl) rfl)
        exact .nil _
      · rfl
      · exact keepOK_of hk hn rfl
      refine WPA.cond rfl (fun hc1 => ?_) (fun hc1 => ?_)
      · have hup : lrelax s a = ⟨s.at_.set a.t.toNat (s.A a.f.toNat + a.by_), s.lst.set a.t.toNat a, a.t⟩ := if_pos (of_decide_eq_true hc1)
        apply WPA.draw mixed
        · first | apply Trace.pu [_] (.loadLoc1D ty50 (.plain rfl) rfl rfl) | apply Trace.pu [_] (.loadLoc1 ty50 (.plain rfl) rfl rfl) | apply Trace.pu [] (.loadRp1 ty50 (.plain rfl) rfl) | apply Trace.pu [_] (.loadCol1 ty50 (.plain rfl) rfl rfl rfl (fun _ => by omega))
          apply Trace.pu [] (.fieldAddr fl61_1 (.plain rfl) rfl)
          first | apply Trace.pu [_] (.loadLoc1D ty3 (.plain rfl) rfl rfl) | apply Trace.pu [_] (.loadLoc1 ty3 (.plain rfl) rfl rfl) | apply Trace.pu [] (.loadRp1 ty3 (.plain rfl) rfl) | apply Trace.pu [_] (.loadCol1 ty3 (.plain rfl) rfl rfl rfl (fun _ => by omega))
          first | apply Trace.pu [_] (.loadLoc1D ty51 (.plain rfl) rfl rfl) | apply Trace.pu [_] (.loadLoc1 ty51 (.plain rfl) rfl rfl) | apply Trace.pu [] (.loadRp1 ty51 (.plain rfl) rfl) | apply Trace.pu [_] (.loadCol1 ty51 (.plain rfl) rfl rfl rfl (fun _ => by omega))
          apply Trace.pu [] (.fieldAddr fl61_1 (.plain rfl) rfl)
          first | apply Trace.pu [_] (.loadLoc1D ty3 (.plain rfl) rfl rfl) | apply Trace.pu [_] (.loadLoc1 ty3 (.plain rfl) rfl rfl) | apply Trace.pu [] (.loadRp1 ty3 (.plain rfl) rfl) | apply Trace.pu [_] (.loadCol1 ty3 (.plain rfl) rfl rfl rfl (fun _ => by omega))
          first | apply Trace.pu [_] (.loadLoc1D ty50 (.plain rfl) rfl rfl) | apply Trace.pu [_] (.loadLoc1 ty50 (.plain rfl) rfl rfl) | apply Trace.pu [] (.loadRp1 ty50 (.plain rfl) rfl) | apply Trace.pu [_] (.loadCol1 ty50 (.plain rfl) rfl rfl rfl (fun _ => by omega))
          apply Trace.pu [] (.fieldAddr fl61_0 (.plain rfl) rfl)
          first | apply Trace.pu [_] (.loadLoc1D ty3 (.plain rfl) rfl rfl) | apply Trace.pu [_] (.loadLoc1 ty3 (.plain rfl) rfl rfl) | apply Trace.pu [] (.loadRp1 ty3 (.plain rfl) rfl) | apply Trace.pu [_] (.loadCol1 ty3 (.plain rfl) rfl rfl rfl (fun _ => by omega))
          first | apply Trace.pu [] (.indexRows el50 (.plain rfl) (.plain rfl) (fun _ => ⟨by omega, by omega⟩)) | apply Trace.pu [] (.indexOwn el50 (.plain rfl) (.plain rfl) (fun _ => ⟨by omega, by omega⟩)) | apply Trace.pu [] (.indexSl el50 (.plain rfl) (.plain rfl) (fun _ => ⟨by omega, by omega⟩))
          first | apply Trace.pu [_] (.loadLoc1D ty3 (.plain rfl) rfl rfl) | apply Trace.pu [_] (.loadLoc1 ty3 (.plain rfl) rfl rfl) | apply Trace.pu [] (.loadRp1 ty3 (.plain rfl) rfl) | apply Trace.pu [_] (.loadCol1 ty3 (.plain rfl) rfl rfl rfl (fun _ => by omega))
          apply Trace.pu [] (.fieldAddr fl61_2 (.plain rfl) rfl)
          first | apply Trace.pu [_] (.loadLoc1D ty3 (.plain rfl) rfl rfl) | apply Trace.pu [_] (.loadLoc1 ty3 (.plain rfl) rfl rfl) | apply Trace.pu [] (.loadRp1 ty3 (.plain rfl) rfl) | apply Trace.pu [_] (.loadCol1 ty3 (.plain rfl) rfl rfl rfl (fun _ => by omega))
          apply Trace.pu [] (.arith (.plain rfl) (.plain rfl) rfl (fun _ => bd64 (by omega)))
          first | apply Trace.pu [_] (.loadAllD ty61 (.plain rfl) rfl (by simp)) | apply Trace.pu [_] (.loadLocD ty61 (.plain rfl) rfl (fun _ => by simp)) | apply Trace.pu [_] (.loadLoc ty61 (.plain rfl) rfl (fun _ => Nat.le_of_ble_eq_true rfl)) | apply Trace.pu [] (.loadRp ty61 (.plain rfl) (fun _ => by decide)) | apply Trace.pu [] (.loadRp ty61 (.plain rfl) (fun _ => Nat.le_of_ble_eq_true rfl)) | apply Trace.pu [_] (.loadCol ty61 (.plain rfl) rfl rfl (fun _ => by decide) (fun _ => by omega)) | apply Trace.pu [_] (.loadArr ty61 (.plain rfl) rfl)
          apply Trace.pu [] (.fieldAddr fl61_1 (.plain rfl) rfl)
          first | apply Trace.pu [_] (.loadLoc1D ty3 (.plain rfl) rfl rfl) | apply Trace.pu [_] (.loadLoc1 ty3 (.plain rfl) rfl rfl) | apply Trace.pu [] (.loadRp1 ty3 (.plain rfl) rfl) | apply Trace.pu [_] (.loadCol1 ty3 (.plain rfl) rfl rfl rfl (fun _ => by omega))
          first | apply Trace.pu [] (.indexRows el50 (.plain rfl) (.plain rfl) (fun _ => ⟨by omega, by omega⟩)) | apply Trace.pu [] (.indexOwn el50 (.plain rfl) (.plain rfl) (fun _ => ⟨by omega, by omega⟩)) | apply Trace.pu [] (.indexSl el50 (.plain rfl) (.plain rfl) (fun _ => ⟨by omega, by omega⟩))
          first | apply Trace.storeD ty3 (.plain rfl) (.plain rfl) rfl rfl rfl (by simp [AV.oneB, single]) (Nat.le_of_ble_eq_true rfl) rfl | apply Trace.storeDA ty3 (.plain rfl) (.plain rfl) rfl rfl rfl (by simp [AV.oneB, single]) (Nat.le_of_ble_eq_true rfl) rfl | apply Trace.storeLoc ty3 (.plain rfl) (.plain rfl) rfl rfl rfl (by simp [AV.oneB, single]) (Nat.le_of_ble_eq_true rfl) rfl | apply Trace.storeRow ty3 (.plain rfl) (.plain rfl) rfl rfl rfl rfl (by decide) (by simp [AV.oneB, single]) rfl (by omega)
          first | apply Trace.pu [] (.indexRows el51 (.plain rfl) (.plain rfl) (fun _ => ⟨by omega, by omega⟩)) | apply Trace.pu [] (.indexOwn el51 (.plain rfl) (.plain rfl) (fun _ => ⟨by omega, by omega⟩)) | apply Trace.pu [] (.indexSl el51 (.plain rfl) (.plain rfl) (fun _ => ⟨by omega, by omega⟩))
          first | apply Trace.storeD ty61 (.plain rfl) (.plain rfl) rfl rfl (by simp) (by simp [AV.oneB, single]) (by simp) (spliceL_all (by simp)) | apply Trace.storeD ty61 (.plain rfl) (.plain rfl) rfl rfl (by simp) (by simp [AV.oneB, single]) (by simp) rfl | apply Trace.storeDA ty61 (.plain rfl) (.plain rfl) rfl rfl (by simp) (by simp [AV.oneB, single]) (by simp) rfl | apply Trace.storeLoc ty61 (.plain rfl) (.plain rfl) rfl rfl (by simp) (by simp [AV.oneB, single]) (by simp) rfl | apply Trace.storeRow ty61 (.plain rfl) (.plain rfl) rfl rfl rfl rfl (by decide) (by simp [AV.oneB, single]) rfl (by omega)
          first | apply Trace.storeD ty3 (.plain rfl) (.plain rfl) rfl rfl rfl (by simp [AV.oneB, single]) (Nat.le_of_ble_eq_true rfl) rfl | apply Trace.storeDA ty3 (.plain rfl) (.plain rfl) rfl rfl rfl (by simp [AV.oneB, single]) (Nat.le_of_ble_eq_true rfl) rfl | apply Trace.storeLoc ty3 (.plain rfl) (.plain rfl) rfl rfl rfl (by simp [AV.oneB, single]) (Nat.le_of_ble_eq_true rfl) rfl | apply Trace.storeRow ty3 (.plain rfl) (.plain rfl) rfl rfl rfl rfl (by decide) (by simp [AV.oneB, single]) rfl (by omega)
          exact .nil _
        · rfl
        · exact keepOK_of hk hn rfl
        exact ⟨rfl, blks_of (.cons rfl (.cons (app_eq64 (by rw [hup])) (.cons rfl (.cons (col5 (by rw [hup] <;> first | rfl | simp [arcCols, List.map_set])) (.cons (datI (by rw [hup])) .nil)))))⟩
      · have hup : lrelax s a = s := if_neg (of_decide_eq_false hc1)
        apply WPA.skip
        exact ⟨rfl, blks_of (.cons rfl (.cons (app_eq64 (by rw [hup])) (.cons rfl (.cons (col5 (by rw [hup] <;> first | rfl | simp [arcCols, List.map_set])) (.cons (datI (by rw [hup])) .nil)))))⟩
  · refine WPA.weaken (T := [(sl 1, .av (.own 0 g.es.length)), (sl 2, .av (.loc 2 0)), (sl 4, .av (.loc 4 0)), (sl 5, .av (.d (.v (.slice none 0 0)))), (sl 6, .av (iv .i64 (g.lat.length))), (sl 7, .av (.loc 7 0)), (sl 8, .av (iv .i64 (k))), (sl 9, .av (.loc 9 0)), (bk 0, .blk (.app 1 g.es.length [.ints .i64 fl])), (bk 2, .blk (.data g.ds)), (bk 4, .blk (.cells [.own 16 g.lat.length])), (bk 16, .blk (.app 1 g.lat.length [.ints .i64 ((g.net fl).stt (k + 1)).at_])), (bk 7, .blk (.cells [.own 18 g.lat.length])), (bk 18, .blk (.app 5 g.lat.length (arcCols ((g.net fl).stt (k + 1)).lst))), (bk 9, .blk (.data [.v (.int .i64 ((g.net fl).stt (k + 1)).node)]))]) ?_ (St.le_cons rfl (St.le_cons rfl (St.le_cons rfl (St.le_cons rfl (St.le_cons rfl (St.le_cons rfl (St.le_cons rfl (St.le_cons rfl (St.le_cons rfl (St.le_cons rfl (St.le_cons rfl (St.le_cons rfl (St.le_cons rfl (St.le_cons rfl (St.le_cons rfl (St.le_nil _))))))))))))))))
    apply WPA.seq
    apply WPA.block
    apply WPA.seq
    apply WPA.region
    · first | apply Trace.pu [_] (.loadLoc1D ty3 (.plain rfl) rfl rfl) | apply Trace.pu [_] (.loadLoc1 ty3 (.plain rfl) rfl rfl) | apply Trace.pu [] (.loadRp1 ty3 (.plain rfl) rfl) | apply Trace.pu [_] (.loadCol1 ty3 (.plain rfl) rfl rfl rfl (fun _ => by omega))
      apply Trace.pu [] (.cmp (.plain rfl) (.plain rfl) rfl)
      apply Trace.pu [] (.assign (.plain rfl))
      exact .nil _
    · exact keepOK_of hk hn rfl
    refine WPA.cond rfl (fun hc2 => ?_) (fun hc2 => ?_)
    · have hq : ((g.net fl).stt (k + 1)).node < 0 := of_decide_eq_true hc2
      have hrun := lrun_quiet hk0.1 hk0.2 hq
      rw [← hrun] at hq
      apply WPA.seq
      apply WPA.region
      · first | apply Trace.pu [_] (.loadLoc1D ty50 (.plain rfl) rfl rfl) | apply Trace.pu [_] (.loadLoc1 ty50 (.plain rfl) rfl rfl) | apply Trace.pu [] (.loadRp1 ty50 (.plain rfl) rfl) | apply Trace.pu [_] (.loadCol1 ty50 (.plain rfl) rfl rfl rfl (fun _ => by omega))
        first | apply Trace.storeD ty50 (.plain rfl) (.plain rfl) rfl rfl rfl (by simp [AV.oneB, single]) (Nat.le_of_ble_eq_true rfl) rfl | apply Trace.storeDA ty50 (.plain rfl) (.plain rfl) rfl rfl rfl (by simp [AV.oneB, single]) (Nat.le_of_ble_eq_true rfl) rfl | apply Trace.storeLoc ty50 (.plain rfl) (.plain rfl) rfl rfl rfl (by simp [AV.oneB, single]) (Nat.le_of_ble_eq_true rfl) rfl | apply Trace.storeRow ty50 (.plain rfl) (.plain rfl) rfl rfl rfl rfl (by decide) (by simp [AV.oneB, single]) rfl (by omega)
        apply Trace.pu [] (.assign (.plain rfl))
        exact .nil _
      · exact keepOK_of hk hn rfl
      refine WPA.ghost (Ghost.cellFreeze (lb := 4) (j := 0) (l := 16) (g := fun i => [Col.at (.ints .i64 ((g.net fl).stt (k + 1)).at_) i]) rfl rfl rfl rfl (fun i hi => rfl) rfl) ?_
      apply WPA.ret
      refine ⟨.inr rfl, ⟨_, (.cons (.cell1 rfl rfl ty50 rfl) (.cons (.tmp rfl) .nil)), ?_⟩, blks_of (.cons rfl .nil)⟩
      have hl : ((g.net fl).stt (k + 1)).at_.length = g.lat.length := (lstt_good hN hN1 hN2 (k := k + 1) (by have := hk0.1; show k + 1 ≤ g.lat.length + 1; omega)).la
      unfold lresA lresC
      rw [if_pos hq, if_pos hq, hrun, intsD, hl]
      rfl
    · have hnq : ¬ ((g.net fl).stt (k + 1)).node < 0 := of_decide_eq_false hc2
      apply WPA.seq
      apply WPA.region
      · apply Trace.pu [] (.move (.plain rfl))
        apply Trace.pu [] (.move (.plain rfl))
        apply Trace.pu [] (.cmp (.plain rfl) (.plain rfl) rfl)
        apply Trace.pu [] (.assign (.plain rfl))
        exact .nil _
      · exact keepOK_of hk hn rfl
      refine WPA.cond rfl (fun hc3 => ?_) (fun hc3 => ?_)
      · have hkl : k < g.lat.length := by simpa using hc3
        apply WPA.exit
        apply WPA.region
        · apply Trace.pu [] (.move (.plain rfl))
          apply Trace.pu [] (.arith (.plain rfl) (.plain rfl) rfl (fun _ => bd64 (by omega)))
          apply Trace.pu [] (.assign (.plain rfl))
          exact .nil _
        · exact keepOK_of hk hn rfl
        exact ⟨k + 1, ⟨by omega, fun j h1 h2 => by
          by_cases hj : j = k + 1
          · subst hj; omega
          · exact hk0.2 j h1 (by omega)⟩, by omega, St.le_cons rfl (St.le_cons rfl (St.le_cons rfl (St.le_cons rfl (St.le_cons rfl (St.le_cons rfl (St.le_cons (slI (by omega)) (St.le_cons rfl (St.le_cons rfl (St.le_cons rfl (St.le_cons rfl (St.le_cons rfl (St.le_cons rfl (St.le_nil _)))))))))))))⟩
      · have hkn : k = g.lat.length := by
          have : ¬ ((k : Int) < g.lat.length) := by simpa using hc3
          have := hk0.1
          omega
        subst hkn
        have hrun := lrun_full (N := g.net fl) (fun j h1 h2 => by
          by_cases hj : j = g.lat.length + 1
          · subst hj; omega
          · exact hk0.2 j h1 (by have h2 : j ≤ g.lat.length + 1 := h2; omega))
        have hrun : (g.net fl).run = (g.net fl).stt (g.lat.length + 1) := hrun
        have hG := lstt_good hN hN1 hN2 (k := g.lat.length + 1) (Nat.le_refl _)
        have hcs := lrun_cases hN
        have hA : lresA g fl = .v (.slice none 0 0) := by unfold lresA; rw [if_neg (by rw [hrun]; exact hnq)]
        have hC : lresC g fl = arcsD (g.net fl).cyc := by unfold lresC; rw [if_neg (by rw [hrun]; exact hnq)]
        have hcyc : (g.net fl).cyc = (g.net fl).run.gone (g.net fl).knot ((g.net fl).run.per g.lat.length (g.net fl).knot) := rfl
        have hkn2 : (g.net fl).knot = (g.net fl).run.back g.lat.length (g.net fl).run.node.toNat := rfl
        rw [← hrun] at hG hnq ⊢
        obtain ⟨r, hr⟩ : ∃ r, (g.net fl).run = r := ⟨_, rfl⟩
        rw [hr] at hcs hcyc hkn2 hG hnq ⊢
        rcases hcs with ⟨h1, _⟩ | ⟨⟨v, hv, hnd⟩, hway, hcy⟩
        · omega
        have hv : v < g.lat.length := hv
        rw [hnd] at hway hkn2
        rw [show ((v : Nat) : Int).toNat = v from rfl] at hway hkn2
        rw [hkn2] at hcy hcyc
        obtain ⟨x, hx⟩ : ∃ x, r.back g.lat.length v = x := ⟨_, rfl⟩
        rw [hx] at hcy hcyc
        obtain ⟨hp0, hpn, hpx, hpmin⟩ := lper_spec hcy
        have hp0 : 0 < r.per g.lat.length x := hp0
        have hpn : r.per g.lat.length x ≤ g.lat.length := hpn
        have hpx : r.back (r.per g.lat.length x) x = x := hpx
        have hpmin : ∀ k, 0 < k → k < r.per g.lat.length x → r.back k x ≠ x := hpmin
        obtain ⟨p, hp⟩ : ∃ p, r.per g.lat.length x = p := ⟨_, rfl⟩
        rw [hp] at hp0 hpn hpx hpmin hcyc
        have hll : r.lst.length = g.lat.length := hG.ll
        have hstep : ∀ y, LOn (g.net fl) r y → y < g.lat.length ∧ ((r.lst.map (·.f)).getD y 0) = ((r.pr y : Nat) : Int) := fun y o => by
          have h1 : y < g.lat.length := o.lt
          have h2 := hN.as _ o.mem
          refine ⟨h1, ?_⟩
          rw [mapF (by omega)]
          unfold LP.pr
          show (r.L y).f = _
          omega
        apply WPA.skip
        apply WPA.seq
        apply WPA.seq
        refine WPA.weaken (T := [(sl 4, .av (.loc 4 0)), (sl 5, .av (.d (.v (.slice none 0 0)))), (sl 6, .av (iv .i64 (g.lat.length))), (sl 7, .av (.loc 7 0)), (sl 9, .av (.loc 9 0)), (bk 0, .blk (.app 1 g.es.length [.ints .i64 fl])), (bk 4, .blk (.cells [.own 16 g.lat.length])), (bk 16, .blk (.app 1 g.lat.length [.ints .i64 (r).at_])), (bk 7, .blk (.cells [.own 18 g.lat.length])), (bk 18, .blk (.app 5 g.lat.length (arcCols (r).lst))), (bk 9, .blk (.data [.v (.int .i64 (v : Nat))]))]) ?_ (St.le_cons rfl (St.le_cons rfl (St.le_cons rfl (St.le_cons rfl (St.le_cons rfl (St.le_cons rfl (St.le_cons rfl (St.le_cons rfl (St.le_cons rfl (St.le_cons rfl (St.le_cons (datI hnd) (St.le_nil _))))))))))))
        apply WPA.region
        · apply Trace.pu [] (.move (.plain rfl))
          apply Trace.pu [] (.move (.plain rfl))
          exact .nil _
        · exact keepOK_of hk hn rfl
        apply WPA.block
        refine WPA.loop (σ := Nat) (fun i => [(sl 4, .av (.loc 4 0)), (sl 5, .av (.d (.v (.slice none 0 0)))), (sl 6, .av (iv .i64 (g.lat.length))), (sl 7, .av (.loc 7 0)), (sl 9, .av (.loc 9 0)), (sl 66, .av (iv .i64 (g.lat.length))), (sl 67, .av (iv .i64 (i))), (bk 0, .blk (.app 1 g.es.length [.ints .i64 fl])), (bk 4, .blk (.cells [.own 16 g.lat.length])), (bk 16, .blk (.app 1 g.lat.length [.ints .i64 (r).at_])), (bk 7, .blk (.cells [.own 18 g.lat.length])), (bk 18, .blk (.app 5 g.lat.length (arcCols (r).lst))), (bk 9, .blk (.data [.v (.int .i64 (r.back i v : Nat))]))]) (fun i => i ≤ g.lat.length) (fun i => g.lat.length - i) 0
          (St.le_cons rfl (St.le_cons rfl (St.le_cons rfl (St.le_cons rfl (St.le_cons rfl (St.le_cons rfl (St.le_cons rfl (St.le_cons rfl (St.le_cons rfl (St.le_cons rfl (St.le_cons rfl (St.le_cons rfl (St.le_cons rfl (St.le_nil _)))))))))))))) (Nat.zero_le _) fun j hj => ?_
        apply WPA.seq
        apply WPA.region
        · apply Trace.pu [] (.cmp (.plain rfl) (.plain rfl) rfl)
          exact .nil _
        · exact keepOK_of hk hn rfl
        apply WPA.seq
        refine WPA.cond rfl (fun hc4 => ?_) (fun hc4 => ?_)
        · have hjl : j < g.lat.length := by simpa using hc4
          obtain ⟨hs1, hs2⟩ := hstep _ (hway j)
          apply WPA.skip
          apply WPA.seq
          apply WPA.block
          apply WPA.region
          · first | apply Trace.pu [_] (.loadLoc1D ty51 (.plain rfl) rfl rfl) | apply Trace.pu [_] (.loadLoc1 ty51 (.plain rfl) rfl rfl) | apply Trace.pu [] (.loadRp1 ty51 (.plain rfl) rfl) | apply Trace.pu [_] (.loadCol1 ty51 (.plain rfl) rfl rfl rfl (fun _ => by omega))
            first | apply Trace.pu [_] (.loadLoc1D ty3 (.plain rfl) rfl rfl) | apply Trace.pu [_] (.loadLoc1 ty3 (.plain rfl) rfl rfl) | apply Trace.pu [] (.loadRp1 ty3 (.plain rfl) rfl) | apply Trace.pu [_] (.loadCol1 ty3 (.plain rfl) rfl rfl rfl (fun _ => by omega))
            first | apply Trace.pu [] (.indexRows el51 (.plain rfl) (.plain rfl) (fun _ => ⟨by omega, by omega⟩)) | apply Trace.pu [] (.indexOwn el51 (.plain rfl) (.plain rfl) (fun _ => ⟨by omega, by omega⟩)) | apply Trace.pu [] (.indexSl el51 (.plain rfl) (.plain rfl) (fun _ => ⟨by omega, by omega⟩))
            apply Trace.pu [] (.fieldAddr fl61_0 (.plain rfl) rfl)
            first | apply Trace.pu [_] (.loadLoc1D ty3 (.plain rfl) rfl rfl) | apply Trace.pu [_] (.loadLoc1 ty3 (.plain rfl) rfl rfl) | apply Trace.pu [] (.loadRp1 ty3 (.plain rfl) rfl) | apply Trace.pu [_] (.loadCol1 ty3 (.plain rfl) rfl rfl rfl (fun _ => by omega))
            first | apply Trace.storeD ty3 (.plain rfl) (.plain rfl) rfl rfl rfl (by simp [AV.oneB, single]) (Nat.le_of_ble_eq_true rfl) rfl | apply Trace.storeDA ty3 (.plain rfl) (.plain rfl) rfl rfl rfl (by simp [AV.oneB, single]) (Nat.le_of_ble_eq_true rfl) rfl | apply Trace.storeLoc ty3 (.plain rfl) (.plain rfl) rfl rfl rfl (by simp [AV.oneB, single]) (Nat.le_of_ble_eq_true rfl) rfl | apply Trace.storeRow ty3 (.plain rfl) (.plain rfl) rfl rfl rfl rfl (by decide) (by simp [AV.oneB, single]) rfl (by omega)
            exact .nil _
          · exact keepOK_of hk hn rfl
          apply WPA.region
          · apply Trace.pu [] (.arith (.plain rfl) (.plain rfl) rfl (fun _ => bd64 (by omega)))
            apply Trace.pu [] (.move (.plain rfl))
            exact .nil _
          · exact keepOK_of hk hn rfl
          exact ⟨j + 1, by omega, by omega, St.le_cons rfl (St.le_cons rfl (St.le_cons rfl (St.le_cons rfl (St.le_cons rfl (St.le_cons rfl (St.le_cons (slI (by omega)) (St.le_cons rfl (St.le_cons rfl (St.le_cons rfl (St.le_cons rfl (St.le_cons rfl (St.le_cons (datI hs2) (St.le_nil _)))))))))))))⟩
        · have hjn : j = g.lat.length := by
            have : ¬ ((j : Int) < g.lat.length) := by simpa using hc4
            omega
          subst hjn
          rw [hx]
          refine WPA.ghost (Ghost.ownNil' (t := 5) (l := 90) (cs := arcCols []) (n := 5) rfl rfl (by rw [hk]; decide) (by rw [hn]; exact Nat.le_of_ble_eq_true rfl) rfl (by intro c hc; simp [arcCols] at hc; rcases hc with rfl | rfl <;> rfl)) ?_
          apply WPA.exit
          apply WPA.seq
          apply WPA.seq
          apply WPA.region
          · first | apply Trace.pu [_] (.loadLoc1D ty3 (.plain rfl) rfl rfl) | apply Trace.pu [_] (.loadLoc1 ty3 (.plain rfl) rfl rfl) | apply Trace.pu [] (.loadRp1 ty3 (.plain rfl) rfl) | apply Trace.pu [_] (.loadCol1 ty3 (.plain rfl) rfl rfl rfl (fun _ => by omega))
            apply Trace.pu [] (.assign (.plain rfl))
            exact .nil _
          · exact keepOK_of hk hn rfl
          apply WPA.block
          refine WPA.loop (σ := Nat) (fun i => [(sl 4, .av (.loc 4 0)), (sl 5, .av (.own 90 i)), (sl 7, .av (.loc 7 0)), (sl 9, .av (.loc 9 0)), (sl 11, .av (iv .i64 ((r.back i x : Nat)))), (bk 0, .blk (.app 1 g.es.length [.ints .i64 fl])), (bk 4, .blk (.cells [.own 16 g.lat.length])), (bk 16, .blk (.app 1 g.lat.length [.ints .i64 (r).at_])), (bk 7, .blk (.cells [.own 18 g.lat.length])), (bk 18, .blk (.app 5 g.lat.length (arcCols (r).lst))), (bk 9, .blk (.data [.v (.int .i64 (x : Nat))])), (bk 90, .blk (.app 5 i (arcCols (r.gone x i))))]) (fun i => i ≤ p) (fun i => p - i) 0
            (St.le_cons rfl (St.le_cons rfl (St.le_cons rfl (St.le_cons rfl (St.le_cons rfl (St.le_cons rfl (St.le_cons rfl (St.le_cons rfl (St.le_cons rfl (St.le_cons rfl (St.le_cons rfl (St.le_cons rfl (St.le_nil _))))))))))))) (Nat.zero_le _) fun i hi => ?_
          apply WPA.seq
          apply WPA.seq
          apply WPA.region
          · apply Trace.pu [] (.move (.plain rfl))
            apply Trace.pu [] (.len rfl Try.underlying51 (.plain rfl) rfl)
            apply Trace.pu [] (.cmp (.plain rfl) (.plain rfl) rfl)
            apply Trace.pu [] (.move (.plain rfl))
            apply Trace.pg [] rfl (.move (.plain rfl))
            first | apply Trace.pg [_] rfl (.loadLoc1D ty3 (.plain rfl) rfl rfl) | apply Trace.pg [_] rfl (.loadLoc1 ty3 (.plain rfl) rfl rfl) | apply Trace.pg [] rfl (.loadRp1 ty3 (.plain rfl) rfl) | apply Trace.pg [_] rfl (.loadCol1 ty3 (.plain rfl) rfl rfl rfl (fun _ => by omega))
            apply Trace.pg [] rfl (.cmp (.gd rfl (fun h => h)) (.gd rfl (fun h => h)) rfl)
            apply Trace.pu [] (.pick (.plain rfl) (.plain rfl) (.gd rfl (by simp)))
            exact .nil _
          · exact keepOK_of hk hn rfl
          refine WPA.cond rfl (fun hc5 => ?_) (fun hc5 => ?_)
          · have hlt : i < p := by
              have h9 : (bif decide ((i : Int) = 0) then true else !decide (((r.back i x : Nat) : Int) = (x : Nat))) = true := hc5
              rw [bif_or, Bool.or_eq_true, decide_eq_true_eq, Bool.not_eq_true', decide_eq_false_iff_not] at h9
              rcases h9 with h9 | h9
              · omega
              · by_cases e : i = p
                · rw [e, hpx] at h9; exact absurd rfl h9
                · omega
            obtain ⟨hs1, hs2⟩ := hstep _ (hcy.way i)
            apply WPA.skip
            apply WPA.seq
            apply WPA.block
            apply WPA.region
            · apply Trace.pu [] (.move (.plain rfl))
              first | apply Trace.pu [_] (.loadLoc1D ty51 (.plain rfl) rfl rfl) | apply Trace.pu [_] (.loadLoc1 ty51 (.plain rfl) rfl rfl) | apply Trace.pu [] (.loadRp1 ty51 (.plain rfl) rfl) | apply Trace.pu [_] (.loadCol1 ty51 (.plain rfl) rfl rfl rfl (fun _ => by omega))
              apply Trace.pu [] (.move (.plain rfl))
              first | apply Trace.pu [] (.indexRows el51 (.plain rfl) (.plain rfl) (fun _ => ⟨by omega, by omega⟩)) | apply Trace.pu [] (.indexOwn el51 (.plain rfl) (.plain rfl) (fun _ => ⟨by omega, by omega⟩)) | apply Trace.pu [] (.indexSl el51 (.plain rfl) (.plain rfl) (fun _ => ⟨by omega, by omega⟩))
              apply Trace.pu [18] (.loadCol ty61 (.plain rfl) rfl rfl (fun _ => Nat.le_of_ble_eq_true rfl) (fun _ => by omega))
              apply Trace.buildSlice 94 [] so51 zo61 rfl (by decide) (by decide) (.cons (.plain rfl) rfl rfl (Nat.le_of_ble_eq_true rfl) (.nil _ _)) rfl rfl rfl
              apply Trace.append 95 [bk 90, bk 94, sl 89, sl 94, sl 5] ap51 kd51 (by decide) (.own (.plain rfl) rfl) (.own (.plain rfl) rfl) (Col.ones rfl) (labs_ok rfl) (by omega) (by omega) rfl rfl
              apply Trace.pu [] (.assign (.plain rfl))
              exact .nil _
            · exact keepOK_of hk hn rfl
            refine WPA.ghost (Ghost.swap 90 95 (by rw [hk]; decide) (by rw [hk]; decide) rfl) ?_
            apply WPA.region
            · first | apply Trace.pu [_] (.loadLoc1D ty51 (.plain rfl) rfl rfl) | apply Trace.pu [_] (.loadLoc1 ty51 (.plain rfl) rfl rfl) | apply Trace.pu [] (.loadRp1 ty51 (.plain rfl) rfl) | apply Trace.pu [_] (.loadCol1 ty51 (.plain rfl) rfl rfl rfl (fun _ => by omega))
              apply Trace.pu [] (.move (.plain rfl))
              first | apply Trace.pu [] (.indexRows el51 (.plain rfl) (.plain rfl) (fun _ => ⟨by omega, by omega⟩)) | apply Trace.pu [] (.indexOwn el51 (.plain rfl) (.plain rfl) (fun _ => ⟨by omega, by omega⟩)) | apply Trace.pu [] (.indexSl el51 (.plain rfl) (.plain rfl) (fun _ => ⟨by omega, by omega⟩))
              apply Trace.pu [] (.fieldAddr fl61_0 (.plain rfl) rfl)
              first | apply Trace.pu [_] (.loadLoc1D ty3 (.plain rfl) rfl rfl) | apply Trace.pu [_] (.loadLoc1 ty3 (.plain rfl) rfl rfl) | apply Trace.pu [] (.loadRp1 ty3 (.plain rfl) rfl) | apply Trace.pu [_] (.loadCol1 ty3 (.plain rfl) rfl rfl rfl (fun _ => by omega))
              apply Trace.pu [] (.assign (.plain rfl))
              exact .nil _
            · exact keepOK_of hk hn rfl
            exact ⟨i + 1, by omega, by omega, St.le_cons rfl (St.le_cons rfl (St.le_cons rfl (St.le_cons rfl (St.le_cons (slI hs2) (St.le_cons rfl (St.le_cons rfl (St.le_cons rfl (St.le_cons rfl (St.le_cons rfl (St.le_cons rfl (St.le_cons (col5 (by simp only [arcCols, LP.gone, List.range_succ, List.map_append, List.map_cons, List.map_nil, LP.L]; rw [← mapF (by omega), ← mapT (by omega), ← mapB (by omega), ← mapE (by omega), ← mapK (by omega)]; rfl)) (St.le_nil _))))))))))))⟩
          · have hip : i = p := by
              have h9 : (bif decide ((i : Int) = 0) then true else !decide (((r.back i x : Nat) : Int) = (x : Nat))) = false := hc5
              rw [bif_or, Bool.or_eq_false_iff, decide_eq_false_iff_not, Bool.not_eq_false', decide_eq_true_eq] at h9
              by_cases e : i = p
              · exact e
              · exact absurd (by omega) (hpmin i (by omega) (by omega))
            subst hip
            apply WPA.exit
            apply WPA.seq
            refine WPA.ghost (Ghost.freezeAs (t := 5) (l := 90) (g := fun k => (arcCols (r.gone x i)).map (Col.at · k)) rfl rfl (fun k hk => rfl)) ?_
            apply WPA.region
            · apply Trace.pu [] (.move (.plain rfl))
              first | apply Trace.storeD ty50 (.plain rfl) (.plain rfl) rfl rfl rfl (by simp [AV.oneB, single]) (Nat.le_of_ble_eq_true rfl) rfl | apply Trace.storeDA ty50 (.plain rfl) (.plain rfl) rfl rfl rfl (by simp [AV.oneB, single]) (Nat.le_of_ble_eq_true rfl) rfl | apply Trace.storeLoc ty50 (.plain rfl) (.plain rfl) rfl rfl rfl (by simp [AV.oneB, single]) (Nat.le_of_ble_eq_true rfl) rfl | apply Trace.storeRow ty50 (.plain rfl) (.plain rfl) rfl rfl rfl rfl (by decide) (by simp [AV.oneB, single]) rfl (by omega)
              apply Trace.pu [] (.assign (.plain rfl))
              exact .nil _
            · exact keepOK_of hk hn rfl
            apply WPA.ret
            refine ⟨.inr rfl, ⟨_, (.cons (.cell1 rfl rfl ty50 rfl) (.cons (.tmp rfl) .nil)), ?_⟩, blks_of (.cons rfl .nil)⟩
            rw [hA, hC, hcyc]
            simp only [arcsD, rowsD, List.length_map, List.length_range]
            rfl

end Go.Proofs.Ytkieenlidehdgaa

