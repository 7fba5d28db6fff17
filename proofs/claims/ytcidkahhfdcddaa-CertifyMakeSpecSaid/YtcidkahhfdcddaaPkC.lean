import Derived.Test.YtcidkahhfdcddaaPkB
import Derived.Test.YtcidkahhfdcddaaSplit
import Derived.Test.YtcidkahhfdcddaaPkG
import Derived.Test.YtcidkahhfdcddaaGuard
/- The arcs; the iterator over them. -/
namespace Go.Proofs.Ytcidkahhfdcddaa
open Go
set_option linter.unusedVariables false
set_option linter.unusedSimpArgs false
set_option maxRecDepth 10000
set_option maxHeartbeats 1000000

abbrev Arc.ds (a : Arc) : List D := [.v (.int .i64 a.f), .v (.int .i64 a.t), .v (.int .i64 a.by_), .v (.int .i64 a.e), .v (.bool a.b)]
abbrev arcCols (l : List Arc) : List Col := [.ints .i64 (l.map (·.f)), .ints .i64 (l.map (·.t)), .ints .i64 (l.map (·.by_)), .ints .i64 (l.map (·.e)), .bools (l.map (·.b))]
abbrev arcsD (l : List Arc) : D := rowsD 5 l.length (arcCols l)
theorem Pure.never {P : Program} {S : St} {o : Oper} {x : AV} (h : ∀ d, o.op ≠ .defer d) : Pure P S [] o false x := ⟨h, fun _ _ _ _ _ _ h => by cases h⟩
/-- What the loop over the arcs holds. -/
abbrev CsL (n : Nat) (s : LP) : St := [(bk 4, .blk (.cells [.own 16 n])), (bk 16, .blk (.app 1 n [.ints .i64 s.at_])), (bk 7, .blk (.cells [.own 18 n])), (bk 18, .blk (.app 5 n (arcCols s.lst))), (bk 9, .blk (.data [.v (.int .i64 s.node)]))]
abbrev tsL : List (Nat × AV) := [(4, .loc 4 0), (7, .loc 7 0), (9, .loc 9 0)]
abbrev lhL (ac bo : Code) : LH := ⟨.ready, none, #[24], ac, bo, 97⟩
/-- soundpost/plan.arcs -/
theorem spec46 (g : Gr) (fl : List Int) (m : Nat) : FnSpec Try.prog 46 [g.av, .own 0 m] [(bk 0, .blk (.app 1 m [.ints .i64 fl]))] (.fn 60 [.loc 60 0, .loc 61 0]) [(bk 60, .blk (.data g.ds)), (bk 61, .blk (.cells [.own 0 m])), (bk 0, .blk (.app 1 m [.ints .i64 fl]))] [0] := by
  refine fnSpec_of (rs := [.tmp 4]) Try.func46 rfl rfl (Nat.le_of_ble_eq_true rfl) (odd_of rfl) fun E hk hn => ?_
  apply WPA.seq
  apply WPA.region
  · apply Trace.boxD 60 [] (.plain rfl) rfl rfl
    apply Trace.box 61 [] (.plain rfl) rfl rfl rfl
    apply Trace.pu [] (.assign (.plain rfl))
    exact .nil _
  · exact keepOK_of hk hn rfl
  apply WPA.seq
  apply WPA.region
  · apply Trace.pu [] (.funcL (.cons (.plain rfl) (.cons (.plain rfl) .nil)))
    apply Trace.pu [] (.assign (.plain rfl))
    exact .nil _
  · exact keepOK_of hk hn rfl
  apply WPA.ret
  refine ⟨.inr rfl, ⟨_, (.cons (.tmp rfl) .nil), ?_⟩, blks_of (.cons rfl (.cons rfl (.cons rfl .nil)))⟩
  rfl

/-- soundpost/plan.arcs$1 -/
theorem itL {g : Gr} (h : g.OK) {fl : List Int} (hfl : fl.length = g.es.length) {s0 : LP} {ac bo : Code} (hY : ∀ k, k < (g.net fl).as.length → ∀ a, (g.net fl).as.getD k default = a → YSpec Try.prog 70 [.d (.agg a.ds)] ((bk 70, .blk (.lp (lhL ac bo) tsL)) :: CsL g.lat.length ((g.net fl).passTo s0 k)) (bv true) ((bk 70, .blk (.lp (lhL ac bo) tsL)) :: CsL g.lat.length ((g.net fl).passTo s0 (k + 1))) [70, 4, 16, 7, 18, 9]) : FnSpec Try.prog 60 [.yld 70, .loc 60 0, .loc 61 0] ((bk 70, .blk (.lp (lhL ac bo) tsL)) :: (bk 60, .blk (.data g.ds)) :: (bk 61, .blk (.cells [.own 0 g.es.length])) :: (bk 0, .blk (.app 1 g.es.length [.ints .i64 fl])) :: CsL g.lat.length ((g.net fl).passTo s0 0)) (.tup []) ((bk 70, .blk (.lp (lhL ac bo) tsL)) :: (bk 60, .blk (.data g.ds)) :: (bk 61, .blk (.cells [.own 0 g.es.length])) :: (bk 0, .blk (.app 1 g.es.length [.ints .i64 fl])) :: CsL g.lat.length ((g.net fl).pass s0)) [70, 60, 61, 0, 4, 16, 7, 18, 9] := by
  have hn1 := h.n
  have hn2 := h.m
  refine fnSpec_of (rs := []) Try.func60 rfl rfl (Nat.le_of_ble_eq_true rfl) (odd_of rfl) fun E hk hn => ?_
  apply WPA.seq
  apply WPA.region
  · apply Trace.pu [] (.fieldAddr fl25_1 (.plain rfl) rfl)
    first | apply Trace.pu [_] (.loadLoc1D ty23 (.plain rfl) rfl rfl) | apply Trace.pu [_] (.loadLoc1 ty23 (.plain rfl) rfl rfl) | apply Trace.pu [] (.loadRp1 ty23 (.plain rfl) rfl) | apply Trace.pu [_] (.loadCol1 ty23 (.plain rfl) rfl rfl rfl (fun _ => by omega))
    apply Trace.pu [] (.len rfl Try.underlying23 (.plain rfl) rfl)
    apply Trace.pu [] (.move (.plain rfl))
    exact .nil _
  · exact keepOK_of hk hn rfl
  apply WPA.block
  refine WPA.loop (σ := Nat) (fun i => [(sl 0, .av (.yld 70)), (sl 1, .av (.loc 60 0)), (sl 2, .av (.loc 61 0)), (sl 8, .av (.d (edgesD g.es))), (sl 9, .av (iv .i64 (g.es.length))), (sl 10, .av (iv .i64 (i))), (bk 60, .blk (.data g.ds)), (bk 61, .blk (.cells [.own 0 g.es.length])), (bk 0, .blk (.app 1 g.es.length [.ints .i64 fl])), (bk 70, .blk (.lp (lhL ac bo) tsL)), (bk 4, .blk (.cells [.own 16 g.lat.length])), (bk 16, .blk (.app 1 g.lat.length [.ints .i64 ((g.net fl).passTo s0 (g.posC g.byE fl i)).at_])), (bk 7, .blk (.cells [.own 18 g.lat.length])), (bk 18, .blk (.app 5 g.lat.length (arcCols ((g.net fl).passTo s0 (g.posC g.byE fl i)).lst))), (bk 9, .blk (.data [.v (.int .i64 ((g.net fl).passTo s0 (g.posC g.byE fl i)).node)]))]) (fun i => i ≤ g.es.length) (fun i => g.es.length - i) 0
    (St.le_cons rfl (St.le_cons rfl (St.le_cons rfl (St.le_cons rfl (St.le_cons rfl (St.le_cons rfl (St.le_cons rfl (St.le_cons rfl (St.le_cons rfl (St.le_cons rfl (St.le_cons rfl (St.le_cons rfl (St.le_cons rfl (St.le_cons rfl (St.le_cons rfl (St.le_nil _)))))))))))))))) (Nat.zero_le _) fun i hi => ?_
  apply WPA.seq
  apply WPA.region
  · apply Trace.pu [] (.cmp (.plain rfl) (.plain rfl) rfl)
    exact .nil _
  · exact keepOK_of hk hn rfl
  apply WPA.seq
  refine WPA.cond rfl (fun hc1 => ?_) (fun hc1 => ?_)
  · have hlt : i < g.es.length := by simpa using hc1
    obtain ⟨e, he⟩ : ∃ e, g.es.getD i default = e := ⟨_, rfl⟩
    have hem : e ∈ g.es := by rw [← he]; exact (Gr.edge h hlt).1
    obtain ⟨h1, h2, h3, h4, _, _, h5, h6, h7, h8⟩ := Gr.edge_mem h hem
    obtain ⟨ha1, ha2, ha3, ha4⟩ := arcs_at (c := g.byE) (B := 1052672) (fl := fl) hlt
    have hfw : (g.net fl).as.getD (g.posC g.byE fl i) default = ⟨e.f, e.t, g.lat.getD e.f.toNat 0 - e.d, i, false, 1⟩ := by rw [ha2, ← he]; rfl
    have hlf := hfl
    apply WPA.skip
    apply WPA.seq
    apply WPA.block
    apply WPA.seq
    apply WPA.region
    · apply Trace.pu [] (.move (.plain rfl))
      apply Trace.pu [] ((Pure.indexRows el23 (.plain rfl) (.plain rfl) (fun _ => ⟨by omega, by omega⟩)).to (y := .rp e.ds) (by show AV.rp (g.es.getD i default).ds = _; rw [he]))
      first | apply Trace.pu [_] (.loadAllD ty34 (.plain rfl) rfl (by simp)) | apply Trace.pu [_] (.loadLocD ty34 (.plain rfl) rfl (fun _ => by simp)) | apply Trace.pu [_] (.loadLoc ty34 (.plain rfl) rfl (fun _ => Nat.le_of_ble_eq_true rfl)) | apply Trace.pu [] (.loadRp ty34 (.plain rfl) (fun _ => by decide)) | apply Trace.pu [] (.loadRp ty34 (.plain rfl) (fun _ => Nat.le_of_ble_eq_true rfl)) | apply Trace.pu [_] (.loadCol ty34 (.plain rfl) rfl rfl (fun _ => by decide) (fun _ => by omega)) | apply Trace.pu [_] (.loadArr ty34 (.plain rfl) rfl)
      apply Trace.alloc 5 [] (.data _) zo34 (cellsAs_data _) rfl
      apply Trace.pu [] (.assign (.plain rfl))
      first | apply Trace.storeD ty34 (.plain rfl) (.plain rfl) rfl rfl (by simp) (by simp [AV.oneB, single]) (by simp) (spliceL_all (by simp)) | apply Trace.storeD ty34 (.plain rfl) (.plain rfl) rfl rfl (by simp) (by simp [AV.oneB, single]) (by simp) rfl | apply Trace.storeDA ty34 (.plain rfl) (.plain rfl) rfl rfl (by simp) (by simp [AV.oneB, single]) (by simp) rfl | apply Trace.storeLoc ty34 (.plain rfl) (.plain rfl) rfl rfl (by simp) (by simp [AV.oneB, single]) (by simp) rfl | apply Trace.storeRow ty34 (.plain rfl) (.plain rfl) rfl rfl rfl rfl (by decide) (by simp [AV.oneB, single]) rfl (by omega)
      exact .nil _
    · exact keepOK_of hk hn rfl
    apply WPA.seq
    apply WPA.draw mixed
    · apply Trace.pu [] (.fieldAddr fl25_0 (.plain rfl) rfl)
      first | apply Trace.pu [_] (.loadLoc1D ty22 (.plain rfl) rfl rfl) | apply Trace.pu [_] (.loadLoc1 ty22 (.plain rfl) rfl rfl) | apply Trace.pu [] (.loadRp1 ty22 (.plain rfl) rfl) | apply Trace.pu [_] (.loadCol1 ty22 (.plain rfl) rfl rfl rfl (fun _ => by omega))
      apply Trace.pu [] (.fieldAddr fl34_0 (.plain rfl) rfl)
      first | apply Trace.pu [_] (.loadLoc1D ty3 (.plain rfl) rfl rfl) | apply Trace.pu [_] (.loadLoc1 ty3 (.plain rfl) rfl rfl) | apply Trace.pu [] (.loadRp1 ty3 (.plain rfl) rfl) | apply Trace.pu [_] (.loadCol1 ty3 (.plain rfl) rfl rfl rfl (fun _ => by omega))
      first | apply Trace.pu [] (.indexRows el22 (.plain rfl) (.plain rfl) (fun _ => ⟨by omega, by omega⟩)) | apply Trace.pu [] (.indexOwn el22 (.plain rfl) (.plain rfl) (fun _ => ⟨by omega, by omega⟩)) | apply Trace.pu [] (.indexSl el22 (.plain rfl) (.plain rfl) (fun _ => ⟨by omega, by omega⟩))
      first | apply Trace.pu [_] (.loadLoc1D ty3 (.plain rfl) rfl rfl) | apply Trace.pu [_] (.loadLoc1 ty3 (.plain rfl) rfl rfl) | apply Trace.pu [] (.loadRp1 ty3 (.plain rfl) rfl) | apply Trace.pu [_] (.loadCol1 ty3 (.plain rfl) rfl rfl rfl (fun _ => by omega))
      apply Trace.pu [] (.fieldAddr fl34_3 (.plain rfl) rfl)
      first | apply Trace.pu [_] (.loadLoc1D ty3 (.plain rfl) rfl rfl) | apply Trace.pu [_] (.loadLoc1 ty3 (.plain rfl) rfl rfl) | apply Trace.pu [] (.loadRp1 ty3 (.plain rfl) rfl) | apply Trace.pu [_] (.loadCol1 ty3 (.plain rfl) rfl rfl rfl (fun _ => by omega))
      apply Trace.pu [] (.arith (.plain rfl) (.plain rfl) rfl (fun _ => bd64 (by omega)))
      apply Trace.pu [] (.assign (.plain rfl))
      exact .nil _
    · rfl
    · exact keepOK_of hk hn rfl
    apply WPA.seq
    refine WPA.weaken (T := [(sl 0, .av (.yld 70)), (sl 1, .av (.loc 60 0)), (sl 2, .av (.loc 61 0)), (sl 4, .av (iv .i64 (i))), (sl 5, .av (.loc 5 0)), (sl 6, .av (iv .i64 (g.lat.getD e.f.toNat 0 - e.d))), (sl 8, .av (.d (edgesD g.es))), (sl 9, .av (iv .i64 (g.es.length))), (sl 10, .av (iv .i64 (i))), (bk 5, .blk (.data e.ds)), (bk 60, .blk (.data g.ds)), (bk 61, .blk (.cells [.own 0 g.es.length])), (bk 0, .blk (.app 1 g.es.length [.ints .i64 fl])), (bk 70, .blk (.lp (lhL ac bo) tsL)), (bk 4, .blk (.cells [.own 16 g.lat.length])), (bk 16, .blk (.app 1 g.lat.length [.ints .i64 ((g.net fl).passTo s0 (g.posC g.byE fl i)).at_])), (bk 7, .blk (.cells [.own 18 g.lat.length])), (bk 18, .blk (.app 5 g.lat.length (arcCols ((g.net fl).passTo s0 (g.posC g.byE fl i)).lst))), (bk 9, .blk (.data [.v (.int .i64 ((g.net fl).passTo s0 (g.posC g.byE fl i)).node)]))]) ?_ (St.le_cons rfl (St.le_cons rfl (St.le_cons rfl (St.le_cons rfl (St.le_cons rfl (St.le_cons rfl (St.le_cons rfl (St.le_cons rfl (St.le_cons rfl (St.le_cons rfl (St.le_cons rfl (St.le_cons rfl (St.le_cons rfl (St.le_cons rfl (St.le_cons rfl (St.le_cons rfl (St.le_cons rfl (St.le_cons rfl (St.le_cons rfl (St.le_nil _))))))))))))))))))))
    rcases Decidable.em (0 < fl.getD i 0) with hfp | hfp
    · obtain ⟨hb1, hb2, hb3x⟩ := ha3 hfp
      have hb3 : g.posC g.byE fl (i + 1) = g.posC g.byE fl i + 1 + 1 := hb3x
      have hbw : (g.net fl).as.getD (g.posC g.byE fl i + 1) default = ⟨e.t, e.f, -(g.lat.getD e.f.toNat 0 - e.d), i, true, -1⟩ := by rw [hb2, ← he]; rfl
      apply WPA.region2 11 (T := [(sl 34, .av (bv false)), (sl 0, .av (.yld 70)), (sl 1, .av (.loc 60 0)), (sl 2, .av (.loc 61 0)), (sl 4, .av (iv .i64 (i))), (sl 5, .av (.loc 5 0)), (sl 6, .av (iv .i64 (g.lat.getD e.f.toNat 0 - e.d))), (sl 8, .av (.d (edgesD g.es))), (sl 9, .av (iv .i64 (g.es.length))), (sl 10, .av (iv .i64 (i))), (bk 5, .blk (.data e.ds)), (bk 60, .blk (.data g.ds)), (bk 61, .blk (.cells [.own 0 g.es.length])), (bk 0, .blk (.app 1 g.es.length [.ints .i64 fl])), (bk 70, .blk (.lp (lhL ac bo) tsL)), (bk 4, .blk (.cells [.own 16 g.lat.length])), (bk 16, .blk (.app 1 g.lat.length [.ints .i64 ((g.net fl).passTo s0 (g.posC g.byE fl i + 1)).at_])), (bk 7, .blk (.cells [.own 18 g.lat.length])), (bk 18, .blk (.app 5 g.lat.length (arcCols ((g.net fl).passTo s0 (g.posC g.byE fl i + 1)).lst))), (bk 9, .blk (.data [.v (.int .i64 ((g.net fl).passTo s0 (g.posC g.byE fl i + 1)).node)]))])
      · apply Trace.pu [] (.move (.plain rfl))
        apply Trace.pu [] (.fieldAddr fl34_0 (.plain rfl) rfl)
        first | apply Trace.pu [_] (.loadLoc1D ty3 (.plain rfl) rfl rfl) | apply Trace.pu [_] (.loadLoc1 ty3 (.plain rfl) rfl rfl) | apply Trace.pu [] (.loadRp1 ty3 (.plain rfl) rfl) | apply Trace.pu [_] (.loadCol1 ty3 (.plain rfl) rfl rfl rfl (fun _ => by omega))
        apply Trace.pu [] (.fieldAddr fl34_1 (.plain rfl) rfl)
        first | apply Trace.pu [_] (.loadLoc1D ty3 (.plain rfl) rfl rfl) | apply Trace.pu [_] (.loadLoc1 ty3 (.plain rfl) rfl rfl) | apply Trace.pu [] (.loadRp1 ty3 (.plain rfl) rfl) | apply Trace.pu [_] (.loadCol1 ty3 (.plain rfl) rfl rfl rfl (fun _ => by omega))
        apply Trace.pu [] (.move (.plain rfl))
        apply Trace.pu [] (.move (.plain rfl))
        apply Trace.pu [] (.build zo56 pl56 (.cons (.plain rfl) rfl rfl (Nat.le_of_ble_eq_true rfl) (.cons (.plain rfl) rfl rfl (Nat.le_of_ble_eq_true rfl) (.cons (.plain rfl) rfl rfl (Nat.le_of_ble_eq_true rfl) (.cons (.plain rfl) rfl rfl (Nat.le_of_ble_eq_true rfl) (.cons (.plain rfl) rfl rfl (Nat.le_of_ble_eq_true rfl) (.nil _ _)))))) rfl)
        apply Trace.cyG (gs := []) [] [bk 70, bk 4, bk 16, bk 7, bk 18, bk 9] (yieldArgs (.plain rfl) (.cons (.plain rfl) .nil)) (hY _ ha1 _ hfw) rfl (.cons rfl (.cons rfl (.cons rfl (.cons rfl (.cons rfl (.cons rfl (.nil))))))) rfl rfl
        apply Trace.pu [] (.not (.plain rfl))
        apply Trace.pu [] (.move (.plain rfl))
        exact .nil _
      · exact keepOK_of hk hn rfl
      · exact (St.le_cons rfl (St.le_cons rfl (St.le_cons rfl (St.le_cons rfl (St.le_cons rfl (St.le_cons rfl (St.le_cons rfl (St.le_cons rfl (St.le_cons rfl (St.le_cons rfl (St.le_cons rfl (St.le_cons rfl (St.le_cons rfl (St.le_cons rfl (St.le_cons rfl (St.le_cons rfl (St.le_cons rfl (St.le_cons rfl (St.le_cons rfl (St.le_cons rfl (St.le_nil _)))))))))))))))))))))
      · first | apply Trace.pg [_] rfl (.loadLoc1D ty22 (.plain rfl) rfl rfl) | apply Trace.pg [_] rfl (.loadLoc1 ty22 (.plain rfl) rfl rfl) | apply Trace.pg [] rfl (.loadRp1 ty22 (.plain rfl) rfl) | apply Trace.pg [_] rfl (.loadCol1 ty22 (.plain rfl) rfl rfl rfl (fun _ => by omega))
        apply Trace.pg [] rfl (.move (.plain rfl))
        first | apply Trace.pg [] rfl (.indexRows el22 (.gd rfl (fun h => h)) (.gd rfl (fun h => h)) (fun _ => ⟨by omega, by omega⟩)) | apply Trace.pg [] rfl (.indexOwn el22 (.gd rfl (fun h => h)) (.gd rfl (fun h => h)) (fun _ => ⟨by omega, by omega⟩)) | apply Trace.pg [] rfl (.indexSl el22 (.gd rfl (fun h => h)) (.gd rfl (fun h => h)) (fun _ => ⟨by omega, by omega⟩))
        first | apply Trace.pg [_] rfl (.loadLoc1D ty3 (.gd rfl (fun h => h)) rfl rfl) | apply Trace.pg [_] rfl (.loadLoc1 ty3 (.gd rfl (fun h => h)) rfl rfl) | apply Trace.pg [] rfl (.loadRp1 ty3 (.gd rfl (fun h => h)) rfl) | apply Trace.pg [_] rfl (.loadCol1 ty3 (.gd rfl (fun h => h)) rfl rfl rfl (fun _ => by omega))
        apply Trace.pg [] rfl ((Pure.cmp (.gd rfl (fun h => h)) (.plain rfl) rfl).to (y := bv true) (congrArg bv (decide_eq_true hfp)))
        apply Trace.pg [] rfl (.move (.gd rfl (fun h => h)))
        apply Trace.pg [] rfl (.move (.plain rfl))
        apply Trace.pg [] rfl (.fieldAddr fl34_1 (.plain rfl) rfl)
        first | apply Trace.pg [_] rfl (.loadLoc1D ty3 (.gd rfl (fun h => h)) rfl rfl) | apply Trace.pg [_] rfl (.loadLoc1 ty3 (.gd rfl (fun h => h)) rfl rfl) | apply Trace.pg [] rfl (.loadRp1 ty3 (.gd rfl (fun h => h)) rfl) | apply Trace.pg [_] rfl (.loadCol1 ty3 (.gd rfl (fun h => h)) rfl rfl rfl (fun _ => by omega))
        apply Trace.pg [] rfl (.fieldAddr fl34_0 (.plain rfl) rfl)
        first | apply Trace.pg [_] rfl (.loadLoc1D ty3 (.gd rfl (fun h => h)) rfl rfl) | apply Trace.pg [_] rfl (.loadLoc1 ty3 (.gd rfl (fun h => h)) rfl rfl) | apply Trace.pg [] rfl (.loadRp1 ty3 (.gd rfl (fun h => h)) rfl) | apply Trace.pg [_] rfl (.loadCol1 ty3 (.gd rfl (fun h => h)) rfl rfl rfl (fun _ => by omega))
        apply Trace.pg [] rfl (.move (.plain rfl))
        apply Trace.pg [] rfl (.neg (.gd rfl (fun h => h)) (fun _ => bd64 (by omega)))
        apply Trace.pg [] rfl (.move (.plain rfl))
        apply Trace.pg [] rfl (.buildG zo56 pl56 (.cons (.gd rfl (fun h => h)) rfl rfl (Nat.le_of_ble_eq_true rfl) (.cons (.gd rfl (fun h => h)) rfl rfl (Nat.le_of_ble_eq_true rfl) (.cons (.gd rfl (fun h => h)) rfl rfl (Nat.le_of_ble_eq_true rfl) (.cons (.gd rfl (fun h => h)) rfl rfl (Nat.le_of_ble_eq_true rfl) (.cons (.plain rfl) rfl rfl (Nat.le_of_ble_eq_true rfl) (.nil _ _)))))))
        apply Trace.cyG (gs := _) [] [bk 70, bk 4, bk 16, bk 7, bk 18, bk 9] (yieldArgs (.gd rfl (fun h => h)) (.cons (.gd rfl (fun h => h)) .nil)) (hY _ hb1 _ hbw) rfl (.cons rfl (.cons rfl (.cons rfl (.cons rfl (.cons rfl (.cons rfl (.nil))))))) rfl rfl
        apply Trace.pg [] rfl (.not (.gd rfl (fun h => h)))
        apply Trace.pg [] rfl (.pick (.gd rfl (fun h => h)) (.gd rfl (by simp)) (.plain rfl))
        apply Trace.pu [] (.pick (.plain rfl) (.plain rfl) (.gd rfl (by simp)))
        exact .nil _
      · exact keepOK_of hk hn rfl
      · exact Nat.le_of_ble_eq_true rfl
      refine WPA.cond rfl (fun hc2 => ?_) (fun hc2 => ?_)
      · cases hc2
      · apply WPA.skip
        apply WPA.region
        · apply Trace.pu [] (.arith (.plain rfl) (.plain rfl) rfl (fun _ => bd64 (by omega)))
          apply Trace.pu [] (.move (.plain rfl))
          exact .nil _
        · exact keepOK_of hk hn rfl
        refine ⟨i + 1, by omega, by omega, ?_⟩
        rw [hb3]
        exact St.le_cons rfl (St.le_cons rfl (St.le_cons rfl (St.le_cons rfl (St.le_cons rfl (St.le_cons (slI (by omega)) (St.le_cons rfl (St.le_cons rfl (St.le_cons rfl (St.le_cons rfl (St.le_cons rfl (St.le_cons rfl (St.le_cons rfl (St.le_cons rfl (St.le_cons rfl (St.le_nil _)))))))))))))))
    · have hb3 := ha4 hfp
      apply WPA.region2 11 (T := [(sl 34, .av (bv false)), (sl 0, .av (.yld 70)), (sl 1, .av (.loc 60 0)), (sl 2, .av (.loc 61 0)), (sl 4, .av (iv .i64 (i))), (sl 5, .av (.loc 5 0)), (sl 6, .av (iv .i64 (g.lat.getD e.f.toNat 0 - e.d))), (sl 8, .av (.d (edgesD g.es))), (sl 9, .av (iv .i64 (g.es.length))), (sl 10, .av (iv .i64 (i))), (bk 5, .blk (.data e.ds)), (bk 60, .blk (.data g.ds)), (bk 61, .blk (.cells [.own 0 g.es.length])), (bk 0, .blk (.app 1 g.es.length [.ints .i64 fl])), (bk 70, .blk (.lp (lhL ac bo) tsL)), (bk 4, .blk (.cells [.own 16 g.lat.length])), (bk 16, .blk (.app 1 g.lat.length [.ints .i64 ((g.net fl).passTo s0 (g.posC g.byE fl i + 1)).at_])), (bk 7, .blk (.cells [.own 18 g.lat.length])), (bk 18, .blk (.app 5 g.lat.length (arcCols ((g.net fl).passTo s0 (g.posC g.byE fl i + 1)).lst))), (bk 9, .blk (.data [.v (.int .i64 ((g.net fl).passTo s0 (g.posC g.byE fl i + 1)).node)]))])
      · apply Trace.pu [] (.move (.plain rfl))
        apply Trace.pu [] (.fieldAddr fl34_0 (.plain rfl) rfl)
        first | apply Trace.pu [_] (.loadLoc1D ty3 (.plain rfl) rfl rfl) | apply Trace.pu [_] (.loadLoc1 ty3 (.plain rfl) rfl rfl) | apply Trace.pu [] (.loadRp1 ty3 (.plain rfl) rfl) | apply Trace.pu [_] (.loadCol1 ty3 (.plain rfl) rfl rfl rfl (fun _ => by omega))
        apply Trace.pu [] (.fieldAddr fl34_1 (.plain rfl) rfl)
        first | apply Trace.pu [_] (.loadLoc1D ty3 (.plain rfl) rfl rfl) | apply Trace.pu [_] (.loadLoc1 ty3 (.plain rfl) rfl rfl) | apply Trace.pu [] (.loadRp1 ty3 (.plain rfl) rfl) | apply Trace.pu [_] (.loadCol1 ty3 (.plain rfl) rfl rfl rfl (fun _ => by omega))
        apply Trace.pu [] (.move (.plain rfl))
        apply Trace.pu [] (.move (.plain rfl))
        apply Trace.pu [] (.build zo56 pl56 (.cons (.plain rfl) rfl rfl (Nat.le_of_ble_eq_true rfl) (.cons (.plain rfl) rfl rfl (Nat.le_of_ble_eq_true rfl) (.cons (.plain rfl) rfl rfl (Nat.le_of_ble_eq_true rfl) (.cons (.plain rfl) rfl rfl (Nat.le_of_ble_eq_true rfl) (.cons (.plain rfl) rfl rfl (Nat.le_of_ble_eq_true rfl) (.nil _ _)))))) rfl)
        apply Trace.cyG (gs := []) [] [bk 70, bk 4, bk 16, bk 7, bk 18, bk 9] (yieldArgs (.plain rfl) (.cons (.plain rfl) .nil)) (hY _ ha1 _ hfw) rfl (.cons rfl (.cons rfl (.cons rfl (.cons rfl (.cons rfl (.cons rfl (.nil))))))) rfl rfl
        apply Trace.pu [] (.not (.plain rfl))
        apply Trace.pu [] (.move (.plain rfl))
        exact .nil _
      · exact keepOK_of hk hn rfl
      · exact (St.le_cons rfl (St.le_cons rfl (St.le_cons rfl (St.le_cons rfl (St.le_cons rfl (St.le_cons rfl (St.le_cons rfl (St.le_cons rfl (St.le_cons rfl (St.le_cons rfl (St.le_cons rfl (St.le_cons rfl (St.le_cons rfl (St.le_cons rfl (St.le_cons rfl (St.le_cons rfl (St.le_cons rfl (St.le_cons rfl (St.le_cons rfl (St.le_cons rfl (St.le_nil _)))))))))))))))))))))
      · first | apply Trace.pg [_] rfl (.loadLoc1D ty22 (.plain rfl) rfl rfl) | apply Trace.pg [_] rfl (.loadLoc1 ty22 (.plain rfl) rfl rfl) | apply Trace.pg [] rfl (.loadRp1 ty22 (.plain rfl) rfl) | apply Trace.pg [_] rfl (.loadCol1 ty22 (.plain rfl) rfl rfl rfl (fun _ => by omega))
        apply Trace.pg [] rfl (.move (.plain rfl))
        first | apply Trace.pg [] rfl (.indexRows el22 (.gd rfl (fun h => h)) (.gd rfl (fun h => h)) (fun _ => ⟨by omega, by omega⟩)) | apply Trace.pg [] rfl (.indexOwn el22 (.gd rfl (fun h => h)) (.gd rfl (fun h => h)) (fun _ => ⟨by omega, by omega⟩)) | apply Trace.pg [] rfl (.indexSl el22 (.gd rfl (fun h => h)) (.gd rfl (fun h => h)) (fun _ => ⟨by omega, by omega⟩))
        first | apply Trace.pg [_] rfl (.loadLoc1D ty3 (.gd rfl (fun h => h)) rfl rfl) | apply Trace.pg [_] rfl (.loadLoc1 ty3 (.gd rfl (fun h => h)) rfl rfl) | apply Trace.pg [] rfl (.loadRp1 ty3 (.gd rfl (fun h => h)) rfl) | apply Trace.pg [_] rfl (.loadCol1 ty3 (.gd rfl (fun h => h)) rfl rfl rfl (fun _ => by omega))
        apply Trace.pg [] rfl ((Pure.cmp (.gd rfl (fun h => h)) (.plain rfl) rfl).to (y := bv false) (congrArg bv (decide_eq_false hfp)))
        apply Trace.pg [] rfl (.move (.gd rfl (fun h => h)))
        apply Trace.pg [] rfl (Pure.never (x := bv true) (by intro d h; cases h))
        apply Trace.pg [] rfl (Pure.never (x := bv true) (by intro d h; cases h))
        apply Trace.pg [] rfl (Pure.never (x := bv true) (by intro d h; cases h))
        apply Trace.pg [] rfl (Pure.never (x := bv true) (by intro d h; cases h))
        apply Trace.pg [] rfl (Pure.never (x := bv true) (by intro d h; cases h))
        apply Trace.pg [] rfl (Pure.never (x := bv true) (by intro d h; cases h))
        apply Trace.pg [] rfl (Pure.never (x := bv true) (by intro d h; cases h))
        apply Trace.pg [] rfl (Pure.never (x := bv true) (by intro d h; cases h))
        apply Trace.pg [] rfl (Pure.never (x := bv true) (by intro d h; cases h))
        apply Trace.pg [] rfl (Pure.never (x := bv true) (by intro d h; cases h))
        apply Trace.pg [] rfl (Pure.never (x := bv true) (by intro d h; cases h))
        apply Trace.pg [] rfl (.pick (.gd rfl (fun h => h)) (.gd rfl (by simp)) (.plain rfl))
        apply Trace.pu [] (.pick (.plain rfl) (.plain rfl) (.gd rfl (by simp)))
        exact .nil _
      · exact keepOK_of hk hn rfl
      · exact Nat.le_of_ble_eq_true rfl
      refine WPA.cond rfl (fun hc3 => ?_) (fun hc3 => ?_)
      · cases hc3
      · apply WPA.skip
        apply WPA.region
        · apply Trace.pu [] (.arith (.plain rfl) (.plain rfl) rfl (fun _ => bd64 (by omega)))
          apply Trace.pu [] (.move (.plain rfl))
          exact .nil _
        · exact keepOK_of hk hn rfl
        refine ⟨i + 1, by omega, by omega, ?_⟩
        rw [hb3]
        exact St.le_cons rfl (St.le_cons rfl (St.le_cons rfl (St.le_cons rfl (St.le_cons rfl (St.le_cons (slI (by omega)) (St.le_cons rfl (St.le_cons rfl (St.le_cons rfl (St.le_cons rfl (St.le_cons rfl (St.le_cons rfl (St.le_cons rfl (St.le_cons rfl (St.le_cons rfl (St.le_nil _)))))))))))))))
  · have hie : i = g.es.length := by
      have : ¬ ((i : Int) < g.es.length) := by simpa using hc1
      omega
    subst hie
    apply WPA.exit
    refine ⟨.inl rfl, ⟨_, (.nil), ?_⟩, blks_of (.cons rfl (.cons rfl (.cons rfl (.cons rfl (.cons rfl (.cons rfl (.cons rfl (.cons rfl (.cons rfl (.nil))))))))))⟩
    rfl

end Go.Proofs.Ytcidkahhfdcddaa


/- longest. -/
namespace Go.Proofs.Ytcidkahhfdcddaa
open Go
set_option linter.unusedVariables false
set_option linter.unusedSimpArgs false
set_option maxRecDepth 10000
set_option maxHeartbeats 1000000

def lresA (g : Gr) (fl : List Int) : D := if (g.net fl).run.node < 0 then intsD (g.net fl).run.at_ else .v (.slice none 0 0)
def lresC (g : Gr) (fl : List Int) : D := if (g.net fl).run.node < 0 then .v (.slice none 0 0) else arcsD (g.net fl).cyc
theorem col5 {n : Nat} {cs ds : List Col} (h : cs = ds) : some (Cont.blk (.app 5 n cs)) = some (Cont.blk (.app 5 n ds)) := by rw [h]
theorem mapF {l : List Arc} {i : Nat} (h : i < l.length) : (l.map (·.f)).getD i 0 = (l.getD i default).f := getD_map' _ _ default _ h
theorem mapT {l : List Arc} {i : Nat} (h : i < l.length) : (l.map (·.t)).getD i 0 = (l.getD i default).t := getD_map' _ _ default _ h
theorem mapB {l : List Arc} {i : Nat} (h : i < l.length) : (l.map (·.by_)).getD i 0 = (l.getD i default).by_ := getD_map' _ _ default _ h
theorem mapE {l : List Arc} {i : Nat} (h : i < l.length) : (l.map (·.e)).getD i 0 = (l.getD i default).e := getD_map' _ _ default _ h
theorem mapK {l : List Arc} {i : Nat} (h : i < l.length) : (l.map (·.b)).getD i false = (l.getD i default).b := getD_map' _ _ default _ h
/-- soundpost/plan.longest -/
theorem spec27 {g : Gr} (hok : g.OK) {fl : List Int} (hfl : fl.length = g.es.length) : FnSpec Try.prog 27 [g.av, .own 0 g.es.length] [(bk 0, .blk (.app 1 g.es.length [.ints .i64 fl]))] (.tup [.d (lresA g fl), .d (lresC g fl)]) [(bk 0, .blk (.app 1 g.es.length [.ints .i64 fl]))] [0] := by
  have hn1 := hok.n
  have hn2 := hok.m
  have hN := net_ok hok fl
  refine fnSpec_of_marks (rs := [.cell 4 50, .tmp 5]) Try.func27 rfl rfl (Nat.le_of_ble_eq_true rfl) (odd_of rfl) fun E hk hn => ?_
  apply WPA.seq
  apply WPA.region
  · apply Trace.boxD 2 [] (.plain rfl) rfl rfl
    apply Trace.alloc 4 [] (.data _) zo50 (cellsAs_data _) rfl
    apply Trace.pu [] (.assign (.plain rfl))
    exact .nil _
  · exact keepOK_of hk hn rfl
  apply WPA.scope
  apply WPA.seq
  apply WPA.region
  · apply Trace.pu [] (.fieldAddr fl25_0 (.plain rfl) rfl)
    first | apply Trace.pu [_] (.loadLoc1D ty22 (.plain rfl) rfl rfl) | apply Trace.pu [_] (.loadLoc1 ty22 (.plain rfl) rfl rfl) | apply Trace.pu [] (.loadRp1 ty22 (.plain rfl) rfl) | apply Trace.pu [_] (.loadCol1 ty22 (.plain rfl) rfl rfl rfl (fun _ => by omega))
    apply Trace.pu [] (.len rfl Try.underlying22 (.plain rfl) rfl)
    apply Trace.pu [] (.assign (.plain rfl))
    exact .nil _
  · exact keepOK_of hk hn rfl
  apply WPA.seq
  apply WPA.region
  · apply Trace.pu [] (.move (.plain rfl))
    apply Trace.makeSlice 16 [] so50 by3 zo3 rfl (by decide) (.plain rfl) (.plain rfl) ⟨by omega, by omega⟩ (by omega) (by omega) rfl rfl
    first | apply Trace.storeD ty50 (.plain rfl) (.plain rfl) rfl rfl rfl (by simp [AV.oneB, single]) (Nat.le_of_ble_eq_true rfl) rfl | apply Trace.storeDA ty50 (.plain rfl) (.plain rfl) rfl rfl rfl (by simp [AV.oneB, single]) (Nat.le_of_ble_eq_true rfl) rfl | apply Trace.storeLoc ty50 (.plain rfl) (.plain rfl) rfl rfl rfl (by simp [AV.oneB, single]) (Nat.le_of_ble_eq_true rfl) rfl | apply Trace.storeRow ty50 (.plain rfl) (.plain rfl) rfl rfl rfl rfl (by decide) (by simp [AV.oneB, single]) rfl (by omega)
    exact .nil _
  · exact keepOK_of hk hn rfl
  apply WPA.seq
  apply WPA.region
  · apply Trace.pu [] (.move (.plain rfl))
    apply Trace.makeSlice 18 [] so51 by56 zo56 rfl (by decide) (.plain rfl) (.plain rfl) ⟨by omega, by omega⟩ (by omega) (by omega) rfl rfl
    apply Trace.alloc 7 [] (.data _) zo51 (cellsAs_data _) rfl
    first | apply Trace.storeD ty51 (.plain rfl) (.plain rfl) rfl rfl rfl (by simp [AV.oneB, single]) (Nat.le_of_ble_eq_true rfl) rfl | apply Trace.storeDA ty51 (.plain rfl) (.plain rfl) rfl rfl rfl (by simp [AV.oneB, single]) (Nat.le_of_ble_eq_true rfl) rfl | apply Trace.storeLoc ty51 (.plain rfl) (.plain rfl) rfl rfl rfl (by simp [AV.oneB, single]) (Nat.le_of_ble_eq_true rfl) rfl | apply Trace.storeRow ty51 (.plain rfl) (.plain rfl) rfl rfl rfl rfl (by decide) (by simp [AV.oneB, single]) rfl (by omega)
    exact .nil _
  · exact keepOK_of hk hn rfl
  apply WPA.seq
  apply WPA.label
  apply WPA.seq
  apply WPA.region
  · apply Trace.pu [] (.assign (.plain rfl))
    exact .nil _
  · exact keepOK_of hk hn rfl
  apply WPA.block
  refine WPA.loop (σ := Nat) (fun i => [(sl 1, .av (.own 0 g.es.length)), (sl 2, .av (.loc 2 0)), (sl 4, .av (.loc 4 0)), (sl 5, .av (.d (.v (.slice none 0 0)))), (sl 6, .av (iv .i64 (g.lat.length))), (sl 7, .av (.loc 7 0)), (sl 8, .av (iv .i64 (i))), (bk 0, .blk (.app 1 g.es.length [.ints .i64 fl])), (bk 2, .blk (.data g.ds)), (bk 4, .blk (.cells [.own 16 g.lat.length])), (bk 16, .blk (.app 1 g.lat.length [.ints .i64 ((g.net fl).stt i).at_])), (bk 7, .blk (.cells [.own 18 g.lat.length])), (bk 18, .blk (.app 5 g.lat.length (arcCols ((g.net fl).stt i).lst)))]) (fun i => i ≤ g.lat.length ∧ (g.net fl).loud i) (fun i => g.lat.length - i) 0
    (St.le_cons rfl (St.le_cons rfl (St.le_cons rfl (St.le_cons rfl (St.le_cons rfl (St.le_cons rfl (St.le_cons rfl (St.le_cons rfl (St.le_cons rfl (St.le_cons rfl (St.le_cons rfl (St.le_cons rfl (St.le_cons (col5 (by simp only [arcCols, Net.stt, Net.start, Gr.net, Gr.netC, List.map_replicate]; rfl)) (St.le_nil _)))))))))))))) ⟨Nat.zero_le _, fun j h1 h2 => by omega⟩ fun k hk0 => ?_
  apply WPA.seq
  apply WPA.block
  apply WPA.seq
  apply WPA.region
  · apply Trace.alloc 9 [] (.data _) zo3 (cellsAs_data _) rfl
    first | apply Trace.storeD ty3 (.plain rfl) (.plain rfl) rfl rfl rfl (by simp [AV.oneB, single]) (Nat.le_of_ble_eq_true rfl) rfl | apply Trace.storeDA ty3 (.plain rfl) (.plain rfl) rfl rfl rfl (by simp [AV.oneB, single]) (Nat.le_of_ble_eq_true rfl) rfl | apply Trace.storeLoc ty3 (.plain rfl) (.plain rfl) rfl rfl rfl (by simp [AV.oneB, single]) (Nat.le_of_ble_eq_true rfl) rfl | apply Trace.storeRow ty3 (.plain rfl) (.plain rfl) rfl rfl rfl rfl (by decide) (by simp [AV.oneB, single]) rfl (by omega)
    exact .nil _
  · exact keepOK_of hk hn rfl
  apply WPA.seq
  apply WPA.seq
  apply WPA.region
  · first | apply Trace.pu [_] (.loadAllD ty25 (.plain rfl) rfl (by simp)) | apply Trace.pu [_] (.loadLocD ty25 (.plain rfl) rfl (fun _ => by simp)) | apply Trace.pu [_] (.loadLoc ty25 (.plain rfl) rfl (fun _ => Nat.le_of_ble_eq_true rfl)) | apply Trace.pu [] (.loadRp ty25 (.plain rfl) (fun _ => by decide)) | apply Trace.pu [] (.loadRp ty25 (.plain rfl) (fun _ => Nat.le_of_ble_eq_true rfl)) | apply Trace.pu [_] (.loadCol ty25 (.plain rfl) rfl rfl (fun _ => by decide) (fun _ => by omega)) | apply Trace.pu [_] (.loadArr ty25 (.plain rfl) rfl)
    apply Trace.pu [] (.move (.plain rfl))
    apply Trace.cb [60, 61] [bk 0] (callArgs0 (.cons (.plain rfl) (.cons (.plain rfl) .nil))) (spec46 g fl g.es.length) en46 (.cons rfl .nil) rfl rfl
    exact .nil _
  · exact keepOK_of hk hn rfl
  apply WPA.block
  refine WPA.rangeFunc (L := 70) (ts := tsL) (ts' := tsL) (new := []) (ds := [bk 60, bk 61, bk 0, bk 4, bk 16, bk 7, bk 18, bk 9]) rfl rfl rfl en60 (.cons rfl (.cons rfl (.cons rfl (.nil)))) hn rfl rfl (by rw [hk]; decide) (by simp) (itL hok hfl (s0 := (g.net fl).stt k) (fun k2 hk2 a ha => ?_)) (.cons rfl (.cons rfl (.cons rfl (.cons rfl (.cons rfl (.cons rfl (.cons rfl (.cons rfl (.cons rfl (.nil)))))))))) rfl rfl rfl rfl (by simp) ?_
  · have hG := lpassTo_good hN (net_T hok fl) (net_B g fl) (k := k) (i := k2) hk0.1 (by omega)
    rw [Net.passTo_succ _ _ hk2, ha]
    have hga : a ∈ (g.net fl).as := by rw [← ha]; exact (Net.arc hN hk2).1
    have hab := hN.as a hga
    generalize (g.net fl).passTo ((g.net fl).stt k) k2 = s at hG ⊢
    have hab1 : 0 ≤ a.f ∧ a.f < g.lat.length := hab.1
    have hab2 : 0 ≤ a.t ∧ a.t < g.lat.length := hab.2.1
    have hab3 : -1052672 ≤ a.by_ ∧ a.by_ ≤ 1052672 := hab.2.2
    have hla : s.at_.length = g.lat.length := hG.la
    have hll : s.lst.length = g.lat.length := hG.ll
    have hb1 := hG.bd a.f.toNat
    have hb2 := hG.bd a.t.toNat
    refine ySpec_of (pe := none) (S1 := [(sl 10, .av (.loc 10 0)), (sl 4, .av (.loc 4 0)), (sl 7, .av (.loc 7 0)), (sl 9, .av (.loc 9 0)), (bk 10, .blk (.data a.ds)), (bk 4, .blk (.cells [.own 16 g.lat.length])), (bk 16, .blk (.app 1 g.lat.length [.ints .i64 (s).at_])), (bk 7, .blk (.cells [.own 18 g.lat.length])), (bk 18, .blk (.app 5 g.lat.length (arcCols (s).lst))), (bk 9, .blk (.data [.v (.int .i64 (s).node)]))]) rfl rfl rfl rfl rfl rfl rfl rfl ?_ ?_
    · intro E l hk hn
      apply WPA.region
      · apply Trace.alloc 10 [] (.data _) zo56 (cellsAs_data _) rfl
        first | apply Trace.storeD ty56 (.plain rfl) (.plain rfl) rfl rfl (by simp) (by simp [AV.oneB, single]) (by simp) (spliceL_all (by simp)) | apply Trace.storeD ty56 (.plain rfl) (.plain rfl) rfl rfl (by simp) (by simp [AV.oneB, single]) (by simp) rfl | apply Trace.storeDA ty56 (.plain rfl) (.plain rfl) rfl rfl (by simp) (by simp [AV.oneB, single]) (by simp) rfl | apply Trace.storeLoc ty56 (.plain rfl) (.plain rfl) rfl rfl (by simp) (by simp [AV.oneB, single]) (by simp) rfl | apply Trace.storeRow ty56 (.plain rfl) (.plain rfl) rfl rfl rfl rfl (by decide) (by simp [AV.oneB, single]) rfl (by omega)
        exact .nil _
      · exact keepOK_of hk hn rfl
      exact ⟨rfl, St.le_cons rfl (St.le_cons rfl (St.le_cons rfl (St.le_cons rfl (St.le_cons rfl (St.le_cons rfl (St.le_cons rfl (St.le_cons rfl (St.le_cons rfl (St.le_cons rfl (St.le_nil _))))))))))⟩
    · intro E l hk hn
      apply WPA.block
      apply WPA.seq
      apply WPA.draw mixed
      · first | apply Trace.pu [_] (.loadLoc1D ty50 (.plain rfl) rfl rfl) | apply Trace.pu [_] (.loadLoc1 ty50 (.plain rfl) rfl rfl) | apply Trace.pu [] (.loadRp1 ty50 (.plain rfl) rfl) | apply Trace.pu [_] (.loadCol1 ty50 (.plain rfl) rfl rfl rfl (fun _ => by omega))
        apply Trace.pu [] (.fieldAddr fl56_0 (.plain rfl) rfl)
        first | apply Trace.pu [_] (.loadLoc1D ty3 (.plain rfl) rfl rfl) | apply Trace.pu [_] (.loadLoc1 ty3 (.plain rfl) rfl rfl) | apply Trace.pu [] (.loadRp1 ty3 (.plain rfl) rfl) | apply Trace.pu [_] (.loadCol1 ty3 (.plain rfl) rfl rfl rfl (fun _ => by omega))
        first | apply Trace.pu [] (.indexRows el50 (.plain rfl) (.plain rfl) (fun _ => ⟨by omega, by omega⟩)) | apply Trace.pu [] (.indexOwn el50 (.plain rfl) (.plain rfl) (fun _ => ⟨by omega, by omega⟩)) | apply Trace.pu [] (.indexSl el50 (.plain rfl) (.plain rfl) (fun _ => ⟨by omega, by omega⟩))
        first | apply Trace.pu [_] (.loadLoc1D ty3 (.plain rfl) rfl rfl) | apply Trace.pu [_] (.loadLoc1 ty3 (.plain rfl) rfl rfl) | apply Trace.pu [] (.loadRp1 ty3 (.plain rfl) rfl) | apply Trace.pu [_] (.loadCol1 ty3 (.plain rfl) rfl rfl rfl (fun _ => by omega))
        apply Trace.pu [] (.fieldAddr fl56_2 (.plain rfl) rfl)
        first | apply Trace.pu [_] (.loadLoc1D ty3 (.plain rfl) rfl rfl) | apply Trace.pu [_] (.loadLoc1 ty3 (.plain rfl) rfl rfl) | apply Trace.pu [] (.loadRp1 ty3 (.plain rfl) rfl) | apply Trace.pu [_] (.loadCol1 ty3 (.plain rfl) rfl rfl rfl (fun _ => by omega))
        apply Trace.pu [] (.arith (.plain rfl) (.plain rfl) rfl (fun _ => bd64 (by omega)))
        first | apply Trace.pu [_] (.loadLoc1D ty50 (.plain rfl) rfl rfl) | apply Trace.pu [_] (.loadLoc1 ty50 (.plain rfl) rfl rfl) | apply Trace.pu [] (.loadRp1 ty50 (.plain rfl) rfl) | apply Trace.pu [_] (.loadCol1 ty50 (.plain rfl) rfl rfl rfl (fun _ => by omega))
        apply Trace.pu [] (.fieldAddr fl56_1 (.plain rfl) rfl)
        first | apply Trace.pu [_] (.loadLoc1D ty3 (.plain rfl) rfl rfl) | apply Trace.pu [_] (.loadLoc1 ty3 (.plain rfl) rfl rfl) | apply Trace.pu [] (.loadRp1 ty3 (.plain rfl) rfl) | apply Trace.pu [_] (.loadCol1 ty3 (.plain rfl) rfl rfl rfl (fun _ => by omega))
        first | apply Trace.pu [] (.indexRows el50 (.plain rfl) (.plain rfl) (fun _ => ⟨by omega, by omega⟩)) | apply Trace.pu [] (.indexOwn el50 (.plain rfl) (.plain rfl) (fun _ => ⟨by omega, by omega⟩)) | apply Trace.pu [] (.indexSl el50 (.plain rfl) (.plain rfl) (fun _ => ⟨by omega, by omega⟩))
        first | apply Trace.pu [_] (.loadLoc1D ty3 (.plain rfl) rfl rfl) | apply Trace.pu [_] (.loadLoc1 ty3 (.plain rfl) rfl rfl) | apply Trace.pu [] (.loadRp1 ty3 (.plain rfl) rfl) | apply Trace.pu [_] (.loadCol1 ty3 (.plain rfl) rfl rfl rfl (fun _ => by omega))
        apply Trace.pu [] (.cmp (.plain rfl) (.plain rfl) rfl)
        exact .nil _
      · rfl
      · exact keepOK_of hk hn rfl
      refine WPA.cond rfl (fun hc1 => ?_) (fun hc1 => ?_)
      · have hup : lrelax s a = ⟨s.at_.set a.t.toNat (s.A a.f.toNat + a.by_), s.lst.set a.t.toNat a, a.t⟩ := if_pos (of_decide_eq_true hc1)
        apply WPA.draw mixed
        · first | apply Trace.pu [_] (.loadLoc1D ty50 (.plain rfl) rfl rfl) | apply Trace.pu [_] (.loadLoc1 ty50 (.plain rfl) rfl rfl) | apply Trace.pu [] (.loadRp1 ty50 (.plain rfl) rfl) | apply Trace.pu [_] (.loadCol1 ty50 (.plain rfl) rfl rfl rfl (fun _ => by omega))
          apply Trace.pu [] (.fieldAddr fl56_1 (.plain rfl) rfl)
          first | apply Trace.pu [_] (.loadLoc1D ty3 (.plain rfl) rfl rfl) | apply Trace.pu [_] (.loadLoc1 ty3 (.plain rfl) rfl rfl) | apply Trace.pu [] (.loadRp1 ty3 (.plain rfl) rfl) | apply Trace.pu [_] (.loadCol1 ty3 (.plain rfl) rfl rfl rfl (fun _ => by omega))
          first | apply Trace.pu [_] (.loadLoc1D ty51 (.plain rfl) rfl rfl) | apply Trace.pu [_] (.loadLoc1 ty51 (.plain rfl) rfl rfl) | apply Trace.pu [] (.loadRp1 ty51 (.plain rfl) rfl) | apply Trace.pu [_] (.loadCol1 ty51 (.plain rfl) rfl rfl rfl (fun _ => by omega))
          apply Trace.pu [] (.fieldAddr fl56_1 (.plain rfl) rfl)
          first | apply Trace.pu [_] (.loadLoc1D ty3 (.plain rfl) rfl rfl) | apply Trace.pu [_] (.loadLoc1 ty3 (.plain rfl) rfl rfl) | apply Trace.pu [] (.loadRp1 ty3 (.plain rfl) rfl) | apply Trace.pu [_] (.loadCol1 ty3 (.plain rfl) rfl rfl rfl (fun _ => by omega))
          first | apply Trace.pu [_] (.loadLoc1D ty50 (.plain rfl) rfl rfl) | apply Trace.pu [_] (.loadLoc1 ty50 (.plain rfl) rfl rfl) | apply Trace.pu [] (.loadRp1 ty50 (.plain rfl) rfl) | apply Trace.pu [_] (.loadCol1 ty50 (.plain rfl) rfl rfl rfl (fun _ => by omega))
          apply Trace.pu [] (.fieldAddr fl56_0 (.plain rfl) rfl)
          first | apply Trace.pu [_] (.loadLoc1D ty3 (.plain rfl) rfl rfl) | apply Trace.pu [_] (.loadLoc1 ty3 (.plain rfl) rfl rfl) | apply Trace.pu [] (.loadRp1 ty3 (.plain rfl) rfl) | apply Trace.pu [_] (.loadCol1 ty3 (.plain rfl) rfl rfl rfl (fun _ => by omega))
          first | apply Trace.pu [] (.indexRows el50 (.plain rfl) (.plain rfl) (fun _ => ⟨by omega, by omega⟩)) | apply Trace.pu [] (.indexOwn el50 (.plain rfl) (.plain rfl) (fun _ => ⟨by omega, by omega⟩)) | apply Trace.pu [] (.indexSl el50 (.plain rfl) (.plain rfl) (fun _ => ⟨by omega, by omega⟩))
          first | apply Trace.pu [_] (.loadLoc1D ty3 (.plain rfl) rfl rfl) | apply Trace.pu [_] (.loadLoc1 ty3 (.plain rfl) rfl rfl) | apply Trace.pu [] (.loadRp1 ty3 (.plain rfl) rfl) | apply Trace.pu [_] (.loadCol1 ty3 (.plain rfl) rfl rfl rfl (fun _ => by omega))
          apply Trace.pu [] (.fieldAddr fl56_2 (.plain rfl) rfl)
          first | apply Trace.pu [_] (.loadLoc1D ty3 (.plain rfl) rfl rfl) | apply Trace.pu [_] (.loadLoc1 ty3 (.plain rfl) rfl rfl) | apply Trace.pu [] (.loadRp1 ty3 (.plain rfl) rfl) | apply Trace.pu [_] (.loadCol1 ty3 (.plain rfl) rfl rfl rfl (fun _ => by omega))
          apply Trace.pu [] (.arith (.plain rfl) (.plain rfl) rfl (fun _ => bd64 (by omega)))
          first | apply Trace.pu [_] (.loadAllD ty56 (.plain rfl) rfl (by simp)) | apply Trace.pu [_] (.loadLocD ty56 (.plain rfl) rfl (fun _ => by simp)) | apply Trace.pu [_] (.loadLoc ty56 (.plain rfl) rfl (fun _ => Nat.le_of_ble_eq_true rfl)) | apply Trace.pu [] (.loadRp ty56 (.plain rfl) (fun _ => by decide)) | apply Trace.pu [] (.loadRp ty56 (.plain rfl) (fun _ => Nat.le_of_ble_eq_true rfl)) | apply Trace.pu [_] (.loadCol ty56 (.plain rfl) rfl rfl (fun _ => by decide) (fun _ => by omega)) | apply Trace.pu [_] (.loadArr ty56 (.plain rfl) rfl)
          apply Trace.pu [] (.fieldAddr fl56_1 (.plain rfl) rfl)
          first | apply Trace.pu [_] (.loadLoc1D ty3 (.plain rfl) rfl rfl) | apply Trace.pu [_] (.loadLoc1 ty3 (.plain rfl) rfl rfl) | apply Trace.pu [] (.loadRp1 ty3 (.plain rfl) rfl) | apply Trace.pu [_] (.loadCol1 ty3 (.plain rfl) rfl rfl rfl (fun _ => by omega))
          first | apply Trace.pu [] (.indexRows el50 (.plain rfl) (.plain rfl) (fun _ => ⟨by omega, by omega⟩)) | apply Trace.pu [] (.indexOwn el50 (.plain rfl) (.plain rfl) (fun _ => ⟨by omega, by omega⟩)) | apply Trace.pu [] (.indexSl el50 (.plain rfl) (.plain rfl) (fun _ => ⟨by omega, by omega⟩))
          first | apply Trace.storeD ty3 (.plain rfl) (.plain rfl) rfl rfl rfl (by simp [AV.oneB, single]) (Nat.le_of_ble_eq_true rfl) rfl | apply Trace.storeDA ty3 (.plain rfl) (.plain rfl) rfl rfl rfl (by simp [AV.oneB, single]) (Nat.le_of_ble_eq_true rfl) rfl | apply Trace.storeLoc ty3 (.plain rfl) (.plain rfl) rfl rfl rfl (by simp [AV.oneB, single]) (Nat.le_of_ble_eq_true rfl) rfl | apply Trace.storeRow ty3 (.plain rfl) (.plain rfl) rfl rfl rfl rfl (by decide) (by simp [AV.oneB, single]) rfl (by omega)
          first | apply Trace.pu [] (.indexRows el51 (.plain rfl) (.plain rfl) (fun _ => ⟨by omega, by omega⟩)) | apply Trace.pu [] (.indexOwn el51 (.plain rfl) (.plain rfl) (fun _ => ⟨by omega, by omega⟩)) | apply Trace.pu [] (.indexSl el51 (.plain rfl) (.plain rfl) (fun _ => ⟨by omega, by omega⟩))
          first | apply Trace.storeD ty56 (.plain rfl) (.plain rfl) rfl rfl (by simp) (by simp [AV.oneB, single]) (by simp) (spliceL_all (by simp)) | apply Trace.storeD ty56 (.plain rfl) (.plain rfl) rfl rfl (by simp) (by simp [AV.oneB, single]) (by simp) rfl | apply Trace.storeDA ty56 (.plain rfl) (.plain rfl) rfl rfl (by simp) (by simp [AV.oneB, single]) (by simp) rfl | apply Trace.storeLoc ty56 (.plain rfl) (.plain rfl) rfl rfl (by simp) (by simp [AV.oneB, single]) (by simp) rfl | apply Trace.storeRow ty56 (.plain rfl) (.plain rfl) rfl rfl rfl rfl (by decide) (by simp [AV.oneB, single]) rfl (by omega)
          first | apply Trace.storeD ty3 (.plain rfl) (.plain rfl) rfl rfl rfl (by simp [AV.oneB, single]) (Nat.le_of_ble_eq_true rfl) rfl | apply Trace.storeDA ty3 (.plain rfl) (.plain rfl) rfl rfl rfl (by simp [AV.oneB, single]) (Nat.le_of_ble_eq_true rfl) rfl | apply Trace.storeLoc ty3 (.plain rfl) (.plain rfl) rfl rfl rfl (by simp [AV.oneB, single]) (Nat.le_of_ble_eq_true rfl) rfl | apply Trace.storeRow ty3 (.plain rfl) (.plain rfl) rfl rfl rfl rfl (by decide) (by simp [AV.oneB, single]) rfl (by omega)
          exact .nil _
        · rfl
        · exact keepOK_of hk hn rfl
        exact ⟨rfl, blks_of (.cons rfl (.cons (app_eq64 (by rw [hup])) (.cons rfl (.cons (col5 (by rw [hup] <;> first | rfl | simp [arcCols, List.map_set])) (.cons (datI (by rw [hup])) .nil)))))⟩
      · have hup : lrelax s a = s := if_neg (of_decide_eq_false hc1)
        apply WPA.skip
        exact ⟨rfl, blks_of (.cons rfl (.cons (app_eq64 (by rw [hup])) (.cons rfl (.cons (col5 (by rw [hup] <;> first | rfl | simp [arcCols, List.map_set])) (.cons (datI (by rw [hup])) .nil)))))⟩
  · refine WPA.weaken (T := [(sl 1, .av (.own 0 g.es.length)), (sl 2, .av (.loc 2 0)), (sl 4, .av (.loc 4 0)), (sl 5, .av (.d (.v (.slice none 0 0)))), (sl 6, .av (iv .i64 (g.lat.length))), (sl 7, .av (.loc 7 0)), (sl 8, .av (iv .i64 (k))), (sl 9, .av (.loc 9 0)), (bk 0, .blk (.app 1 g.es.length [.ints .i64 fl])), (bk 2, .blk (.data g.ds)), (bk 4, .blk (.cells [.own 16 g.lat.length])), (bk 16, .blk (.app 1 g.lat.length [.ints .i64 ((g.net fl).stt (k + 1)).at_])), (bk 7, .blk (.cells [.own 18 g.lat.length])), (bk 18, .blk (.app 5 g.lat.length (arcCols ((g.net fl).stt (k + 1)).lst))), (bk 9, .blk (.data [.v (.int .i64 ((g.net fl).stt (k + 1)).node)]))]) ?_ (St.le_cons rfl (St.le_cons rfl (St.le_cons rfl (St.le_cons rfl (St.le_cons rfl (St.le_cons rfl (St.le_cons rfl (St.le_cons rfl (St.le_cons rfl (St.le_cons rfl (St.le_cons rfl (St.le_cons rfl (St.le_cons rfl (St.le_cons rfl (St.le_cons rfl (St.le_nil _))))))))))))))))
    apply WPA.seq
    apply WPA.block
    apply WPA.seq
    apply WPA.region
    · first | apply Trace.pu [_] (.loadLoc1D ty3 (.plain rfl) rfl rfl) | apply Trace.pu [_] (.loadLoc1 ty3 (.plain rfl) rfl rfl) | apply Trace.pu [] (.loadRp1 ty3 (.plain rfl) rfl) | apply Trace.pu [_] (.loadCol1 ty3 (.plain rfl) rfl rfl rfl (fun _ => by omega))
      apply Trace.pu [] (.cmp (.plain rfl) (.plain rfl) rfl)
      apply Trace.pu [] (.assign (.plain rfl))
      exact .nil _
    · exact keepOK_of hk hn rfl
    refine WPA.cond rfl (fun hc2 => ?_) (fun hc2 => ?_)
    · have hq : ((g.net fl).stt (k + 1)).node < 0 := of_decide_eq_true hc2
      have hrun := lrun_quiet hk0.1 hk0.2 hq
      rw [← hrun] at hq
      apply WPA.seq
      apply WPA.region
      · first | apply Trace.pu [_] (.loadLoc1D ty50 (.plain rfl) rfl rfl) | apply Trace.pu [_] (.loadLoc1 ty50 (.plain rfl) rfl rfl) | apply Trace.pu [] (.loadRp1 ty50 (.plain rfl) rfl) | apply Trace.pu [_] (.loadCol1 ty50 (.plain rfl) rfl rfl rfl (fun _ => by omega))
        first | apply Trace.storeD ty50 (.plain rfl) (.plain rfl) rfl rfl rfl (by simp [AV.oneB, single]) (Nat.le_of_ble_eq_true rfl) rfl | apply Trace.storeDA ty50 (.plain rfl) (.plain rfl) rfl rfl rfl (by simp [AV.oneB, single]) (Nat.le_of_ble_eq_true rfl) rfl | apply Trace.storeLoc ty50 (.plain rfl) (.plain rfl) rfl rfl rfl (by simp [AV.oneB, single]) (Nat.le_of_ble_eq_true rfl) rfl | apply Trace.storeRow ty50 (.plain rfl) (.plain rfl) rfl rfl rfl rfl (by decide) (by simp [AV.oneB, single]) rfl (by omega)
        apply Trace.pu [] (.assign (.plain rfl))
        exact .nil _
      · exact keepOK_of hk hn rfl
      refine WPA.ghost (Ghost.cellFreeze (lb := 4) (j := 0) (l := 16) (g := fun i => [Col.at (.ints .i64 ((g.net fl).stt (k + 1)).at_) i]) rfl rfl rfl rfl (fun i hi => rfl) rfl) ?_
      apply WPA.ret
      refine ⟨.inr rfl, ⟨_, (.cons (.cell1 rfl rfl ty50 rfl) (.cons (.tmp rfl) .nil)), ?_⟩, blks_of (.cons rfl .nil)⟩
      have hl : ((g.net fl).stt (k + 1)).at_.length = g.lat.length := (lstt_good hN (net_T hok fl) (net_B g fl) (k := k + 1) (by have := hk0.1; show k + 1 ≤ g.lat.length + 1; omega)).la
      unfold lresA lresC
      rw [if_pos hq, if_pos hq, hrun, intsD, hl]
      rfl
    · have hnq : ¬ ((g.net fl).stt (k + 1)).node < 0 := of_decide_eq_false hc2
      apply WPA.seq
      apply WPA.region
      · apply Trace.pu [] (.move (.plain rfl))
        apply Trace.pu [] (.move (.plain rfl))
        apply Trace.pu [] (.cmp (.plain rfl) (.plain rfl) rfl)
        apply Trace.pu [] (.assign (.plain rfl))
        exact .nil _
      · exact keepOK_of hk hn rfl
      refine WPA.cond rfl (fun hc3 => ?_) (fun hc3 => ?_)
      · have hkl : k < g.lat.length := by simpa using hc3
        apply WPA.exit
        apply WPA.region
        · apply Trace.pu [] (.move (.plain rfl))
          apply Trace.pu [] (.arith (.plain rfl) (.plain rfl) rfl (fun _ => bd64 (by omega)))
          apply Trace.pu [] (.assign (.plain rfl))
          exact .nil _
        · exact keepOK_of hk hn rfl
        exact ⟨k + 1, ⟨by omega, fun j h1 h2 => by
          by_cases hj : j = k + 1
          · subst hj; omega
          · exact hk0.2 j h1 (by omega)⟩, by omega, St.le_cons rfl (St.le_cons rfl (St.le_cons rfl (St.le_cons rfl (St.le_cons rfl (St.le_cons rfl (St.le_cons (slI (by omega)) (St.le_cons rfl (St.le_cons rfl (St.le_cons rfl (St.le_cons rfl (St.le_cons rfl (St.le_cons rfl (St.le_nil _)))))))))))))⟩
      · have hkn : k = g.lat.length := by
          have : ¬ ((k : Int) < g.lat.length) := by simpa using hc3
          have := hk0.1
          omega
        subst hkn
        have hrun := lrun_full (N := g.net fl) (fun j h1 h2 => by
          by_cases hj : j = g.lat.length + 1
          · subst hj; omega
          · exact hk0.2 j h1 (by have h2 : j ≤ g.lat.length + 1 := h2; omega))
        have hrun : (g.net fl).run = (g.net fl).stt (g.lat.length + 1) := hrun
        have hG := lstt_good hN (net_T hok fl) (net_B g fl) (k := g.lat.length + 1) (Nat.le_refl _)
        have hcs := lrun_cases hN
        have hA : lresA g fl = .v (.slice none 0 0) := by unfold lresA; rw [if_neg (by rw [hrun]; exact hnq)]
        have hC : lresC g fl = arcsD (g.net fl).cyc := by unfold lresC; rw [if_neg (by rw [hrun]; exact hnq)]
        have hcyc : (g.net fl).cyc = (g.net fl).run.gone (g.net fl).knot ((g.net fl).run.per g.lat.length (g.net fl).knot) := rfl
        have hkn2 : (g.net fl).knot = (g.net fl).run.back g.lat.length (g.net fl).run.node.toNat := rfl
        rw [← hrun] at hG hnq ⊢
        obtain ⟨r, hr⟩ : ∃ r, (g.net fl).run = r := ⟨_, rfl⟩
        rw [hr] at hcs hcyc hkn2 hG hnq ⊢
        rcases hcs with ⟨h1, _⟩ | ⟨⟨v, hv, hnd⟩, hway, hcy⟩
        · omega
        have hv : v < g.lat.length := hv
        rw [hnd] at hway hkn2
        rw [show ((v : Nat) : Int).toNat = v from rfl] at hway hkn2
        rw [hkn2] at hcy hcyc
        obtain ⟨x, hx⟩ : ∃ x, r.back g.lat.length v = x := ⟨_, rfl⟩
        rw [hx] at hcy hcyc
        obtain ⟨hp0, hpn, hpx, hpmin⟩ := lper_spec hcy
        have hp0 : 0 < r.per g.lat.length x := hp0
        have hpn : r.per g.lat.length x ≤ g.lat.length := hpn
        have hpx : r.back (r.per g.lat.length x) x = x := hpx
        have hpmin : ∀ k, 0 < k → k < r.per g.lat.length x → r.back k x ≠ x := hpmin
        obtain ⟨p, hp⟩ : ∃ p, r.per g.lat.length x = p := ⟨_, rfl⟩
        rw [hp] at hp0 hpn hpx hpmin hcyc
        have hll : r.lst.length = g.lat.length := hG.ll
        have hstep : ∀ y, LOn (g.net fl) r y → y < g.lat.length ∧ ((r.lst.map (·.f)).getD y 0) = ((r.pr y : Nat) : Int) := fun y o => by
          have h1 : y < g.lat.length := o.lt
          have h2 := hN.as _ o.mem
          refine ⟨h1, ?_⟩
          rw [mapF (by omega)]
          unfold LP.pr
          show (r.L y).f = _
          omega
        apply WPA.skip
        apply WPA.seq
        apply WPA.seq
        refine WPA.weaken (T := [(sl 4, .av (.loc 4 0)), (sl 5, .av (.d (.v (.slice none 0 0)))), (sl 6, .av (iv .i64 (g.lat.length))), (sl 7, .av (.loc 7 0)), (sl 9, .av (.loc 9 0)), (bk 0, .blk (.app 1 g.es.length [.ints .i64 fl])), (bk 4, .blk (.cells [.own 16 g.lat.length])), (bk 16, .blk (.app 1 g.lat.length [.ints .i64 (r).at_])), (bk 7, .blk (.cells [.own 18 g.lat.length])), (bk 18, .blk (.app 5 g.lat.length (arcCols (r).lst))), (bk 9, .blk (.data [.v (.int .i64 (v : Nat))]))]) ?_ (St.le_cons rfl (St.le_cons rfl (St.le_cons rfl (St.le_cons rfl (St.le_cons rfl (St.le_cons rfl (St.le_cons rfl (St.le_cons rfl (St.le_cons rfl (St.le_cons rfl (St.le_cons (datI hnd) (St.le_nil _))))))))))))
        apply WPA.region
        · apply Trace.pu [] (.move (.plain rfl))
          apply Trace.pu [] (.move (.plain rfl))
          exact .nil _
        · exact keepOK_of hk hn rfl
        apply WPA.block
        refine WPA.loop (σ := Nat) (fun i => [(sl 4, .av (.loc 4 0)), (sl 5, .av (.d (.v (.slice none 0 0)))), (sl 6, .av (iv .i64 (g.lat.length))), (sl 7, .av (.loc 7 0)), (sl 9, .av (.loc 9 0)), (sl 66, .av (iv .i64 (g.lat.length))), (sl 67, .av (iv .i64 (i))), (bk 0, .blk (.app 1 g.es.length [.ints .i64 fl])), (bk 4, .blk (.cells [.own 16 g.lat.length])), (bk 16, .blk (.app 1 g.lat.length [.ints .i64 (r).at_])), (bk 7, .blk (.cells [.own 18 g.lat.length])), (bk 18, .blk (.app 5 g.lat.length (arcCols (r).lst))), (bk 9, .blk (.data [.v (.int .i64 (r.back i v : Nat))]))]) (fun i => i ≤ g.lat.length) (fun i => g.lat.length - i) 0
          (St.le_cons rfl (St.le_cons rfl (St.le_cons rfl (St.le_cons rfl (St.le_cons rfl (St.le_cons rfl (St.le_cons rfl (St.le_cons rfl (St.le_cons rfl (St.le_cons rfl (St.le_cons rfl (St.le_cons rfl (St.le_cons rfl (St.le_nil _)))))))))))))) (Nat.zero_le _) fun j hj => ?_
        apply WPA.seq
        apply WPA.region
        · apply Trace.pu [] (.cmp (.plain rfl) (.plain rfl) rfl)
          exact .nil _
        · exact keepOK_of hk hn rfl
        apply WPA.seq
        refine WPA.cond rfl (fun hc4 => ?_) (fun hc4 => ?_)
        · have hjl : j < g.lat.length := by simpa using hc4
          obtain ⟨hs1, hs2⟩ := hstep _ (hway j)
          apply WPA.skip
          apply WPA.seq
          apply WPA.block
          apply WPA.region
          · first | apply Trace.pu [_] (.loadLoc1D ty51 (.plain rfl) rfl rfl) | apply Trace.pu [_] (.loadLoc1 ty51 (.plain rfl) rfl rfl) | apply Trace.pu [] (.loadRp1 ty51 (.plain rfl) rfl) | apply Trace.pu [_] (.loadCol1 ty51 (.plain rfl) rfl rfl rfl (fun _ => by omega))
            first | apply Trace.pu [_] (.loadLoc1D ty3 (.plain rfl) rfl rfl) | apply Trace.pu [_] (.loadLoc1 ty3 (.plain rfl) rfl rfl) | apply Trace.pu [] (.loadRp1 ty3 (.plain rfl) rfl) | apply Trace.pu [_] (.loadCol1 ty3 (.plain rfl) rfl rfl rfl (fun _ => by omega))
            first | apply Trace.pu [] (.indexRows el51 (.plain rfl) (.plain rfl) (fun _ => ⟨by omega, by omega⟩)) | apply Trace.pu [] (.indexOwn el51 (.plain rfl) (.plain rfl) (fun _ => ⟨by omega, by omega⟩)) | apply Trace.pu [] (.indexSl el51 (.plain rfl) (.plain rfl) (fun _ => ⟨by omega, by omega⟩))
            apply Trace.pu [] (.fieldAddr fl56_0 (.plain rfl) rfl)
            first | apply Trace.pu [_] (.loadLoc1D ty3 (.plain rfl) rfl rfl) | apply Trace.pu [_] (.loadLoc1 ty3 (.plain rfl) rfl rfl) | apply Trace.pu [] (.loadRp1 ty3 (.plain rfl) rfl) | apply Trace.pu [_] (.loadCol1 ty3 (.plain rfl) rfl rfl rfl (fun _ => by omega))
            first | apply Trace.storeD ty3 (.plain rfl) (.plain rfl) rfl rfl rfl (by simp [AV.oneB, single]) (Nat.le_of_ble_eq_true rfl) rfl | apply Trace.storeDA ty3 (.plain rfl) (.plain rfl) rfl rfl rfl (by simp [AV.oneB, single]) (Nat.le_of_ble_eq_true rfl) rfl | apply Trace.storeLoc ty3 (.plain rfl) (.plain rfl) rfl rfl rfl (by simp [AV.oneB, single]) (Nat.le_of_ble_eq_true rfl) rfl | apply Trace.storeRow ty3 (.plain rfl) (.plain rfl) rfl rfl rfl rfl (by decide) (by simp [AV.oneB, single]) rfl (by omega)
            exact .nil _
          · exact keepOK_of hk hn rfl
          apply WPA.region
          · apply Trace.pu [] (.arith (.plain rfl) (.plain rfl) rfl (fun _ => bd64 (by omega)))
            apply Trace.pu [] (.move (.plain rfl))
            exact .nil _
          · exact keepOK_of hk hn rfl
          exact ⟨j + 1, by omega, by omega, St.le_cons rfl (St.le_cons rfl (St.le_cons rfl (St.le_cons rfl (St.le_cons rfl (St.le_cons rfl (St.le_cons (slI (by omega)) (St.le_cons rfl (St.le_cons rfl (St.le_cons rfl (St.le_cons rfl (St.le_cons rfl (St.le_cons (datI hs2) (St.le_nil _)))))))))))))⟩
        · have hjn : j = g.lat.length := by
            have : ¬ ((j : Int) < g.lat.length) := by simpa using hc4
            omega
          subst hjn
          rw [hx]
          refine WPA.ghost (Ghost.ownNil' (t := 5) (l := 90) (cs := arcCols []) (n := 5) rfl rfl (by rw [hk]; decide) (by rw [hn]; exact Nat.le_of_ble_eq_true rfl) rfl (by intro c hc; simp [arcCols] at hc; rcases hc with rfl | rfl <;> rfl)) ?_
          apply WPA.exit
          apply WPA.seq
          apply WPA.seq
          apply WPA.region
          · first | apply Trace.pu [_] (.loadLoc1D ty3 (.plain rfl) rfl rfl) | apply Trace.pu [_] (.loadLoc1 ty3 (.plain rfl) rfl rfl) | apply Trace.pu [] (.loadRp1 ty3 (.plain rfl) rfl) | apply Trace.pu [_] (.loadCol1 ty3 (.plain rfl) rfl rfl rfl (fun _ => by omega))
            apply Trace.pu [] (.assign (.plain rfl))
            exact .nil _
          · exact keepOK_of hk hn rfl
          apply WPA.block
          refine WPA.loop (σ := Nat) (fun i => [(sl 4, .av (.loc 4 0)), (sl 5, .av (.own 90 i)), (sl 7, .av (.loc 7 0)), (sl 9, .av (.loc 9 0)), (sl 11, .av (iv .i64 ((r.back i x : Nat)))), (bk 0, .blk (.app 1 g.es.length [.ints .i64 fl])), (bk 4, .blk (.cells [.own 16 g.lat.length])), (bk 16, .blk (.app 1 g.lat.length [.ints .i64 (r).at_])), (bk 7, .blk (.cells [.own 18 g.lat.length])), (bk 18, .blk (.app 5 g.lat.length (arcCols (r).lst))), (bk 9, .blk (.data [.v (.int .i64 (x : Nat))])), (bk 90, .blk (.app 5 i (arcCols (r.gone x i))))]) (fun i => i ≤ p) (fun i => p - i) 0
            (St.le_cons rfl (St.le_cons rfl (St.le_cons rfl (St.le_cons rfl (St.le_cons rfl (St.le_cons rfl (St.le_cons rfl (St.le_cons rfl (St.le_cons rfl (St.le_cons rfl (St.le_cons rfl (St.le_cons rfl (St.le_nil _))))))))))))) (Nat.zero_le _) fun i hi => ?_
          apply WPA.seq
          apply WPA.seq
          apply WPA.region
          · apply Trace.pu [] (.move (.plain rfl))
            apply Trace.pu [] (.len rfl Try.underlying51 (.plain rfl) rfl)
            apply Trace.pu [] (.cmp (.plain rfl) (.plain rfl) rfl)
            apply Trace.pu [] (.move (.plain rfl))
            apply Trace.pg [] rfl (.move (.plain rfl))
            first | apply Trace.pg [_] rfl (.loadLoc1D ty3 (.plain rfl) rfl rfl) | apply Trace.pg [_] rfl (.loadLoc1 ty3 (.plain rfl) rfl rfl) | apply Trace.pg [] rfl (.loadRp1 ty3 (.plain rfl) rfl) | apply Trace.pg [_] rfl (.loadCol1 ty3 (.plain rfl) rfl rfl rfl (fun _ => by omega))
            apply Trace.pg [] rfl (.cmp (.gd rfl (fun h => h)) (.gd rfl (fun h => h)) rfl)
            apply Trace.pu [] (.pick (.plain rfl) (.plain rfl) (.gd rfl (by simp)))
            exact .nil _
          · exact keepOK_of hk hn rfl
          refine WPA.cond rfl (fun hc5 => ?_) (fun hc5 => ?_)
          · have hlt : i < p := by
              have h9 : (bif decide ((i : Int) = 0) then true else !decide (((r.back i x : Nat) : Int) = (x : Nat))) = true := hc5
              rw [bif_or, Bool.or_eq_true, decide_eq_true_eq, Bool.not_eq_true', decide_eq_false_iff_not] at h9
              rcases h9 with h9 | h9
              · omega
              · by_cases e : i = p
                · rw [e, hpx] at h9; exact absurd rfl h9
                · omega
            obtain ⟨hs1, hs2⟩ := hstep _ (hcy.way i)
            apply WPA.skip
            apply WPA.seq
            apply WPA.block
            apply WPA.region
            · apply Trace.pu [] (.move (.plain rfl))
              first | apply Trace.pu [_] (.loadLoc1D ty51 (.plain rfl) rfl rfl) | apply Trace.pu [_] (.loadLoc1 ty51 (.plain rfl) rfl rfl) | apply Trace.pu [] (.loadRp1 ty51 (.plain rfl) rfl) | apply Trace.pu [_] (.loadCol1 ty51 (.plain rfl) rfl rfl rfl (fun _ => by omega))
              apply Trace.pu [] (.move (.plain rfl))
              first | apply Trace.pu [] (.indexRows el51 (.plain rfl) (.plain rfl) (fun _ => ⟨by omega, by omega⟩)) | apply Trace.pu [] (.indexOwn el51 (.plain rfl) (.plain rfl) (fun _ => ⟨by omega, by omega⟩)) | apply Trace.pu [] (.indexSl el51 (.plain rfl) (.plain rfl) (fun _ => ⟨by omega, by omega⟩))
              apply Trace.pu [18] (.loadCol ty56 (.plain rfl) rfl rfl (fun _ => Nat.le_of_ble_eq_true rfl) (fun _ => by omega))
              apply Trace.buildSlice 94 [] so51 zo56 rfl (by decide) (by decide) (.cons (.plain rfl) rfl rfl (Nat.le_of_ble_eq_true rfl) (.nil _ _)) rfl rfl rfl
              apply Trace.append 95 [bk 90, bk 94, sl 89, sl 94, sl 5] ap51 kd51 (by decide) (.own (.plain rfl) rfl) (.own (.plain rfl) rfl) (Col.ones rfl) (labs_ok rfl) (by omega) (by omega) rfl rfl
              apply Trace.pu [] (.assign (.plain rfl))
              exact .nil _
            · exact keepOK_of hk hn rfl
            refine WPA.ghost (Ghost.swap 90 95 (by rw [hk]; decide) (by rw [hk]; decide) rfl) ?_
            apply WPA.region
            · first | apply Trace.pu [_] (.loadLoc1D ty51 (.plain rfl) rfl rfl) | apply Trace.pu [_] (.loadLoc1 ty51 (.plain rfl) rfl rfl) | apply Trace.pu [] (.loadRp1 ty51 (.plain rfl) rfl) | apply Trace.pu [_] (.loadCol1 ty51 (.plain rfl) rfl rfl rfl (fun _ => by omega))
              apply Trace.pu [] (.move (.plain rfl))
              first | apply Trace.pu [] (.indexRows el51 (.plain rfl) (.plain rfl) (fun _ => ⟨by omega, by omega⟩)) | apply Trace.pu [] (.indexOwn el51 (.plain rfl) (.plain rfl) (fun _ => ⟨by omega, by omega⟩)) | apply Trace.pu [] (.indexSl el51 (.plain rfl) (.plain rfl) (fun _ => ⟨by omega, by omega⟩))
              apply Trace.pu [] (.fieldAddr fl56_0 (.plain rfl) rfl)
              first | apply Trace.pu [_] (.loadLoc1D ty3 (.plain rfl) rfl rfl) | apply Trace.pu [_] (.loadLoc1 ty3 (.plain rfl) rfl rfl) | apply Trace.pu [] (.loadRp1 ty3 (.plain rfl) rfl) | apply Trace.pu [_] (.loadCol1 ty3 (.plain rfl) rfl rfl rfl (fun _ => by omega))
              apply Trace.pu [] (.assign (.plain rfl))
              exact .nil _
            · exact keepOK_of hk hn rfl
            exact ⟨i + 1, by omega, by omega, St.le_cons rfl (St.le_cons rfl (St.le_cons rfl (St.le_cons rfl (St.le_cons (slI hs2) (St.le_cons rfl (St.le_cons rfl (St.le_cons rfl (St.le_cons rfl (St.le_cons rfl (St.le_cons rfl (St.le_cons (col5 (by simp only [arcCols, LP.gone, List.range_succ, List.map_append, List.map_cons, List.map_nil, LP.L]; rw [← mapF (by omega), ← mapT (by omega), ← mapB (by omega), ← mapE (by omega), ← mapK (by omega)]; rfl)) (St.le_nil _))))))))))))⟩
          · have hip : i = p := by
              have h9 : (bif decide ((i : Int) = 0) then true else !decide (((r.back i x : Nat) : Int) = (x : Nat))) = false := hc5
              rw [bif_or, Bool.or_eq_false_iff, decide_eq_false_iff_not, Bool.not_eq_false', decide_eq_true_eq] at h9
              by_cases e : i = p
              · exact e
              · exact absurd (by omega) (hpmin i (by omega) (by omega))
            subst hip
            apply WPA.exit
            apply WPA.seq
            refine WPA.ghost (Ghost.freezeAs (t := 5) (l := 90) (g := fun k => (arcCols (r.gone x i)).map (Col.at · k)) rfl rfl (fun k hk => rfl)) ?_
            apply WPA.region
            · apply Trace.pu [] (.move (.plain rfl))
              first | apply Trace.storeD ty50 (.plain rfl) (.plain rfl) rfl rfl rfl (by simp [AV.oneB, single]) (Nat.le_of_ble_eq_true rfl) rfl | apply Trace.storeDA ty50 (.plain rfl) (.plain rfl) rfl rfl rfl (by simp [AV.oneB, single]) (Nat.le_of_ble_eq_true rfl) rfl | apply Trace.storeLoc ty50 (.plain rfl) (.plain rfl) rfl rfl rfl (by simp [AV.oneB, single]) (Nat.le_of_ble_eq_true rfl) rfl | apply Trace.storeRow ty50 (.plain rfl) (.plain rfl) rfl rfl rfl rfl (by decide) (by simp [AV.oneB, single]) rfl (by omega)
              apply Trace.pu [] (.assign (.plain rfl))
              exact .nil _
            · exact keepOK_of hk hn rfl
            apply WPA.ret
            refine ⟨.inr rfl, ⟨_, (.cons (.cell1 rfl rfl ty50 rfl) (.cons (.tmp rfl) .nil)), ?_⟩, blks_of (.cons rfl .nil)⟩
            rw [hA, hC, hcyc]
            simp only [arcsD, rowsD, List.length_map, List.length_range]
            rfl

end Go.Proofs.Ytcidkahhfdcddaa


/- certify: weights, isFlow, bound, isPlan, Bound, Check. -/
namespace Go.Proofs.Ytcidkahhfdcddaa
open Go
set_option linter.unusedVariables false
set_option linter.unusedSimpArgs false
set_option maxRecDepth 10000
set_option maxHeartbeats 1000000

def Gr.wsP (g : Gr) (i : Nat) : List Int := (List.range i).map fun k => (g.ed k).w
theorem wsP_succ (g : Gr) (i : Nat) : g.wsP (i + 1) = g.wsP i ++ [(g.ed i).w] := by simp [Gr.wsP, List.range_succ]
theorem wsP_end (g : Gr) : g.wsP g.es.length = g.ws := ext_fn (by simp [Gr.wsP, Gr.ws]) fun k hk => by
  have hk : k < g.es.length := by simpa [Gr.wsP] using hk
  show (g.wsP g.es.length).getD k 0 = g.ws.getD k 0
  rw [ws_at hk, getD_lt _ _ (by simpa [Gr.wsP] using hk)]
  simp [Gr.wsP]
theorem intsD_len {l : List Int} {n : Nat} (h : l.length = n) : intsD l = rowsD 1 n [.ints .i64 l] := by rw [intsD, h]
theorem flOk_iff {x : Int} : flOk x = true ↔ 0 ≤ x ∧ x ≤ 1048576 := by simp [flOk]
theorem leftTo_bd {g : Gr} (h : g.OK) {fl : List Int} : ∀ i, i ≤ g.es.length → (∀ j, j < i → flOk (fl.getD j 0) = true) → ∀ v, -((i : Int) * 2097280) ≤ (leftTo g fl i).getD v 0 ∧ (leftTo g fl i).getD v 0 ≤ (i : Int) * 2097280
  | 0, _, _, v => by
    have : (leftTo g fl 0).getD v 0 = 0 := by
      show (List.replicate g.lat.length 0).getD v 0 = 0
      simp only [List.getD_eq_getElem?_getD, List.getElem?_replicate]; split <;> rfl
    rw [this]; simp
  | i + 1, hi, hf, v => by
    have ih := leftTo_bd h i (by omega) fun j hj => hf j (by omega)
    obtain ⟨_, he1, he2, _, _⟩ := Gr.edge h (j := i) (by omega)
    have he1 : (g.ed i).f.toNat < g.lat.length := he1
    have he2 : (g.ed i).t.toNat < g.lat.length := he2
    have hw := (h.es (g.ed i) (Gr.edge h (j := i) (by omega)).1).2.2.1
    have hfl := flOk_iff.1 (hf i (by omega))
    have hl := leftTo_len g fl i
    have hfl' : 0 ≤ fn fl i ∧ fn fl i ≤ 1048576 := hfl
    show _ ≤ (((leftTo g fl i).set (g.ed i).t.toNat ((leftTo g fl i).getD (g.ed i).t.toNat 0 + ((g.ed i).w - fn fl i))).set (g.ed i).f.toNat (((leftTo g fl i).set (g.ed i).t.toNat ((leftTo g fl i).getD (g.ed i).t.toNat 0 + ((g.ed i).w - fn fl i))).getD (g.ed i).f.toNat 0 + (fn fl i - (g.ed i).w))).getD v 0 ∧ (((leftTo g fl i).set (g.ed i).t.toNat ((leftTo g fl i).getD (g.ed i).t.toNat 0 + ((g.ed i).w - fn fl i))).set (g.ed i).f.toNat (((leftTo g fl i).set (g.ed i).t.toNat ((leftTo g fl i).getD (g.ed i).t.toNat 0 + ((g.ed i).w - fn fl i))).getD (g.ed i).f.toNat 0 + (fn fl i - (g.ed i).w))).getD v 0 ≤ _
    rw [getD_set (by simpa using (by omega : (g.ed i).f.toNat < (leftTo g fl i).length)), getD_set (by omega), getD_set (by omega)]
    have i1 := ih v
    have i2 := ih (g.ed i).f.toNat
    have i3 := ih (g.ed i).t.toNat
    split <;> split <;> omega
theorem bnd_succ (g : Gr) (fl : List Int) (i : Nat) : g.bnd fl (i + 1) = g.bnd fl i + ((g.ed i).w - fn fl i) * ((g.ed i).d - g.lat.getD (g.ed i).f.toNat 0) := rfl
theorem term_bd {g : Gr} (h : g.OK) {fl : List Int} (hb : ∀ i, i < g.es.length → 0 ≤ fn fl i ∧ fn fl i ≤ 1048576) {i : Nat} (hi : i < g.es.length) : -1103806595072 ≤ ((g.ed i).w - fn fl i) * ((g.ed i).d - g.lat.getD (g.ed i).f.toNat 0) ∧ ((g.ed i).w - fn fl i) * ((g.ed i).d - g.lat.getD (g.ed i).f.toNat 0) ≤ 1103806595072 := by
  have he := Gr.edge_mem h (e := g.ed i) (Gr.edge h hi).1
  have hf := hb i hi
  have hx : -1048576 ≤ (g.ed i).w - fn fl i ∧ (g.ed i).w - fn fl i ≤ 64 := by omega
  have hy : -4096 ≤ (g.ed i).d - g.lat.getD (g.ed i).f.toNat 0 ∧ (g.ed i).d - g.lat.getD (g.ed i).f.toNat 0 ≤ 1048576 := by omega
  generalize (g.ed i).w - fn fl i = x at hx ⊢
  generalize (g.ed i).d - g.lat.getD (g.ed i).f.toNat 0 = y at hy ⊢
  have k : ∀ a b : Int, 0 ≤ a → a ≤ 1048576 → 0 ≤ b → b ≤ 1052672 → 0 ≤ a * b ∧ a * b ≤ 1103806595072 := fun a b a0 a1 b0 b1 => by
    have h1 : a * b ≤ 1048576 * b := Int.mul_le_mul_of_nonneg_right a1 b0
    have h2 := Int.mul_nonneg a0 b0
    omega
  rcases Int.le_total 0 x with hx0 | hx0 <;> rcases Int.le_total 0 y with hy0 | hy0
  · have := k x y hx0 (by omega) hy0 (by omega); omega
  · have := k x (-y) hx0 (by omega) (by omega) (by omega); rw [Int.mul_neg] at this; omega
  · have := k (-x) y (by omega) (by omega) hy0 (by omega); rw [Int.neg_mul] at this; omega
  · have := k (-x) (-y) (by omega) (by omega) (by omega) (by omega); rw [Int.neg_mul_neg] at this; omega
theorem bnd_bd {g : Gr} (h : g.OK) {fl : List Int} (hb : ∀ i, i < g.es.length → 0 ≤ fn fl i ∧ fn fl i ≤ 1048576) : ∀ i, i ≤ g.es.length → -((i : Int) * 1103806595072) ≤ g.bnd fl i ∧ g.bnd fl i ≤ (i : Int) * 1103806595072
  | 0, _ => ⟨by show _ ≤ (0 : Int); omega, by show (0 : Int) ≤ _; omega⟩
  | i + 1, hi => by
    have ih := bnd_bd h hb i (by omega)
    have b := term_bd h hb (i := i) (by omega)
    rw [bnd_succ]
    omega
theorem flowB_iff {g : Gr} (h : g.OK) {fl : List Int} : g.flowB fl = true ↔ fl.length = g.es.length ∧ (∀ i, i < g.es.length → 0 ≤ fn fl i ∧ fn fl i ≤ 1048576) ∧ Same g fl := by
  unfold Gr.flowB
  simp only [Bool.and_eq_true, decide_eq_true_eq]
  rw [all_getD, all_getD, ← left_same h, leftTo_len]
  constructor
  · rintro ⟨h1, h2, h3⟩
    exact ⟨h1, fun i hi => flOk_iff.1 (h2 i (by omega)), fun v hv => of_decide_eq_true (h3 v hv)⟩
  · rintro ⟨h1, h2, h3⟩
    exact ⟨h1, fun i hi => flOk_iff.2 (h2 i (by omega)), fun v hv => decide_eq_true (h3 v hv)⟩
def Gr.isPlan (g : Gr) (p : Pl) : Bool := decide ((g.memory p.at_).2 = 0) && decide (p.del = (g.memory p.at_).1.del) && decide (p.mem = (g.memory p.at_).1.mem)
theorem isPlan_iff {g : Gr} {p : Pl} : g.isPlan p = true ↔ g.check = 0 ∧ g.posB p.at_ = true ∧ p = g.planOf p.at_ := by
  unfold Gr.isPlan
  simp only [Bool.and_eq_true, decide_eq_true_eq]
  constructor
  · rintro ⟨⟨h1, h2⟩, h3⟩
    have hm : g.check = 0 ∧ g.posB p.at_ = true ∧ g.memory p.at_ = (g.planOf p.at_, 0) := by
      unfold Gr.memory at *
      split at h1
      · rename_i k; exact absurd h1 k
      · rename_i k
        split at h1
        · rename_i k2; rw [if_neg k, if_pos k2]; exact ⟨Classical.not_not.1 k, k2, rfl⟩
        · cases h1
    rw [hm.2.2] at h2 h3
    refine ⟨hm.1, hm.2.1, ?_⟩
    cases p
    simp only [Gr.planOf] at *
    simp [h2, h3]
  · rintro ⟨h1, h2, h3⟩
    have hm : g.memory p.at_ = (g.planOf p.at_, 0) := by unfold Gr.memory; rw [if_neg (by rw [h1]; decide), if_pos h2]
    rw [hm]
    exact ⟨⟨rfl, by conv => lhs; rw [h3]⟩, by conv => lhs; rw [h3]⟩
def Gr.boundP (g : Gr) (fl : List Int) : Int × Int := if g.check ≠ 0 then (0, g.check) else if g.flowB fl = true then (g.bnd fl g.es.length, 0) else (0, 240)
def Gr.certP (g : Gr) (p : Pl) (fl : List Int) : Bool × Int := if g.check ≠ 0 then (false, g.check) else if g.isPlan p = true then (if g.flowB fl = true then (decide (g.bnd fl g.es.length = p.mem), 0) else (false, 240)) else (false, 230)
/-- soundpost/certify.weights -/
theorem spec32 {g : Gr} (hok : g.OK) : FnSpec Try.prog 32 [g.av] [] (.own 90 g.es.length) [(bk 90, .blk (.app 1 g.es.length [.ints .i64 g.ws]))] [] := by
  have hn1 := hok.n
  have hn2 := hok.m
  refine fnSpec_of (rs := [.tmp 2]) Try.func32 rfl rfl (Nat.le_of_ble_eq_true rfl) (by simp [St.get]) fun E hk hn => ?_
  apply WPA.seq
  apply WPA.region
  · first | apply Trace.boxD 1 [] (.plain rfl) rfl rfl | apply Trace.box 1 [] (.plain rfl) rfl rfl rfl
    apply Trace.pu [] (.assign (.plain rfl))
    exact .nil _
  · exact keepOK_of hk hn rfl
  apply WPA.seq
  apply WPA.seq
  refine WPA.ghost (Ghost.ownNil' (t := 2) (l := 90) (cs := [.ints .i64 []]) (n := 1) rfl rfl (by rw [hk]; decide) (by rw [hn]; exact Nat.le_of_ble_eq_true rfl) rfl (by simp [Col.len])) ?_
  apply WPA.region
  · apply Trace.pu [] (.fieldAddr fl25_1 (.plain rfl) rfl)
    first | apply Trace.pu [_] (.loadLoc1D ty23 (.plain rfl) rfl rfl) | apply Trace.pu [_] (.loadLoc1 ty23 (.plain rfl) rfl rfl) | apply Trace.pu [] (.loadRp1 ty23 (.plain rfl) rfl) | apply Trace.pu [_] (.loadCol1 ty23 (.plain rfl) rfl rfl rfl (fun _ => by omega))
    apply Trace.pu [] (.len rfl Try.underlying23 (.plain rfl) rfl)
    apply Trace.pu [] (.move (.plain rfl))
    exact .nil _
  · exact keepOK_of hk hn rfl
  apply WPA.block
  refine WPA.loop (σ := Nat) (fun i => [(sl 1, .av (.loc 1 0)), (sl 2, .av (.own 90 i)), (sl 6, .av (.d (edgesD g.es))), (sl 7, .av (iv .i64 (g.es.length))), (sl 8, .av (iv .i64 (i))), (bk 1, .blk (.data g.ds)), (bk 90, .blk (.app 1 i [.ints .i64 (g.wsP i)]))]) (fun i => i ≤ g.es.length) (fun i => g.es.length - i) 0
    (St.le_cons rfl (St.le_cons rfl (St.le_cons rfl (St.le_cons rfl (St.le_cons rfl (St.le_cons rfl (St.le_cons rfl (St.le_nil _)))))))) (Nat.zero_le _) fun i hi => ?_
  apply WPA.seq
  apply WPA.region
  · apply Trace.pu [] (.cmp (.plain rfl) (.plain rfl) rfl)
    exact .nil _
  · exact keepOK_of hk hn rfl
  apply WPA.seq
  refine WPA.cond rfl (fun hc1 => ?_) (fun hc1 => ?_)
  · have hlt : i < g.es.length := by simpa using hc1
    obtain ⟨e, he⟩ : ∃ e, g.es.getD i default = e := ⟨_, rfl⟩
    have hem : e ∈ g.es := by rw [← he]; exact (Gr.edge hok hlt).1
    obtain ⟨he1, he2, he3, he4, he5, he6, he7, he8, he9, he10⟩ := Gr.edge_mem hok hem
    have hed : g.ed i = e := he
    have hws := wsP_succ g i
    rw [hed] at hws
    apply WPA.skip
    apply WPA.seq
    apply WPA.block
    apply WPA.seq
    apply WPA.region
    · apply Trace.pu [] ((Pure.indexRows el23 (.plain rfl) (.plain rfl) (fun _ => ⟨by omega, by omega⟩)).to (y := .rp e.ds) (by show AV.rp (g.es.getD i default).ds = _; rw [he]))
      first | apply Trace.pu [_] (.loadAllD ty34 (.plain rfl) rfl (by simp)) | apply Trace.pu [_] (.loadLocD ty34 (.plain rfl) rfl (fun _ => by simp)) | apply Trace.pu [_] (.loadLoc ty34 (.plain rfl) rfl (fun _ => Nat.le_of_ble_eq_true rfl)) | apply Trace.pu [] (.loadRp ty34 (.plain rfl) (fun _ => by decide)) | apply Trace.pu [] (.loadRp ty34 (.plain rfl) (fun _ => Nat.le_of_ble_eq_true rfl)) | apply Trace.pu [_] (.loadCol ty34 (.plain rfl) rfl rfl (fun _ => by decide) (fun _ => by omega)) | apply Trace.pu [_] (.loadArr ty34 (.plain rfl) rfl)
      apply Trace.alloc 4 [] (.data _) zo34 (cellsAs_data _) rfl
      first | apply Trace.storeD ty34 (.plain rfl) (.plain rfl) rfl rfl (by simp) (by simp [AV.oneB, single]) (by simp) (spliceL_all (by simp)) | apply Trace.storeD ty34 (.plain rfl) (.plain rfl) rfl rfl (by simp) (by simp [AV.oneB, single]) (by simp) rfl | apply Trace.storeDA ty34 (.plain rfl) (.plain rfl) rfl rfl (by simp) (by simp [AV.oneB, single]) (by simp) rfl | apply Trace.storeLoc ty34 (.plain rfl) (.plain rfl) rfl rfl (by simp) (by simp [AV.oneB, single]) (by simp) rfl | apply Trace.storeRow ty34 (.plain rfl) (.plain rfl) rfl rfl rfl rfl (by decide) (by simp [AV.oneB, single]) rfl (by omega)
      exact .nil _
    · exact keepOK_of hk hn rfl
    apply WPA.region
    · apply Trace.pu [] (.move (.plain rfl))
      apply Trace.pu [] (.fieldAddr fl34_2 (.plain rfl) rfl)
      first | apply Trace.pu [_] (.loadLoc1D ty3 (.plain rfl) rfl rfl) | apply Trace.pu [_] (.loadLoc1 ty3 (.plain rfl) rfl rfl) | apply Trace.pu [] (.loadRp1 ty3 (.plain rfl) rfl) | apply Trace.pu [_] (.loadCol1 ty3 (.plain rfl) rfl rfl rfl (fun _ => by omega))
      apply Trace.buildSlice 15 [] so22 zo3 rfl (by decide) (by decide) (.cons (.plain rfl) rfl rfl (Nat.le_of_ble_eq_true rfl) (.nil _ _)) rfl rfl rfl
      apply Trace.append 16 [bk 90, bk 15, sl 12, sl 15, sl 2] ap22 kd22 (by decide) (.own (.plain rfl) rfl) (.own (.plain rfl) rfl) (Col.ones rfl) (labs_ok rfl) (by omega) (by omega) rfl rfl
      apply Trace.pu [] (.assign (.plain rfl))
      exact .nil _
    · exact keepOK_of hk hn rfl
    refine WPA.ghost (Ghost.swap 90 16 (by rw [hk]; decide) (by rw [hk]; decide) rfl) ?_
    apply WPA.region
    · apply Trace.pu [] (.arith (.plain rfl) (.plain rfl) rfl (fun _ => bd64 (by omega)))
      apply Trace.pu [] (.move (.plain rfl))
      exact .nil _
    · exact keepOK_of hk hn rfl
    exact ⟨i + 1, by omega, by omega, St.le_cons rfl (St.le_cons rfl (St.le_cons rfl (St.le_cons rfl (St.le_cons (slI (by omega)) (St.le_cons rfl (St.le_cons (app_eq64 hws.symm) (St.le_nil _)))))))⟩
  · have him : i = g.es.length := by
      have : ¬ ((i : Int) < g.es.length) := by simpa using hc1
      omega
    subst him
    apply WPA.exit
    apply WPA.seq
    apply WPA.region
    · apply Trace.pu [] (.move (.plain rfl))
      apply Trace.pu [] (.assign (.plain rfl))
      exact .nil _
    · exact keepOK_of hk hn rfl
    apply WPA.ret
    refine ⟨.inr rfl, ⟨_, (.cons (.tmp rfl) .nil), ?_⟩, blks_of (.cons (app_eq64 (wsP_end g)) .nil)⟩
    rfl

/-- soundpost/certify.isFlow$1 -/
theorem spec50 {n : Nat} {l : List Int} (hl : l.length = n) (x y : Int) (h0 : 0 ≤ x) (h1 : x.toNat < n) (hb : -9223372036854775808 ≤ l.getD x.toNat 0 + y ∧ l.getD x.toNat 0 + y ≤ 9223372036854775807) : FnSpec Try.prog 50 [iv .i64 x, iv .i64 y, .loc 5 0] [(bk 5, .blk (.cells [.own 18 n])), (bk 18, .blk (.app 1 n [.ints .i64 l]))] (.tup []) [(bk 5, .blk (.cells [.own 18 n])), (bk 18, .blk (.app 1 n [.ints .i64 (l.set x.toNat (l.getD x.toNat 0 + y))]))] [5, 18] := by
  refine fnSpec_of (rs := []) Try.func50 rfl rfl (Nat.le_of_ble_eq_true rfl) (odd_of rfl) fun E hk hn => ?_
  apply WPA.region
  · first | apply Trace.pu [_] (.loadLoc1D ty22 (.plain rfl) rfl rfl) | apply Trace.pu [_] (.loadLoc1 ty22 (.plain rfl) rfl rfl) | apply Trace.pu [] (.loadRp1 ty22 (.plain rfl) rfl) | apply Trace.pu [_] (.loadCol1 ty22 (.plain rfl) rfl rfl rfl (fun _ => by omega))
    apply Trace.pu [] (.move (.plain rfl))
    first | apply Trace.pu [] (.indexRows el22 (.plain rfl) (.plain rfl) (fun _ => ⟨by omega, by omega⟩)) | apply Trace.pu [] (.indexOwn el22 (.plain rfl) (.plain rfl) (fun _ => ⟨by omega, by omega⟩)) | apply Trace.pu [] (.indexSl el22 (.plain rfl) (.plain rfl) (fun _ => ⟨by omega, by omega⟩))
    first | apply Trace.pu [_] (.loadLoc1D ty3 (.plain rfl) rfl rfl) | apply Trace.pu [_] (.loadLoc1 ty3 (.plain rfl) rfl rfl) | apply Trace.pu [] (.loadRp1 ty3 (.plain rfl) rfl) | apply Trace.pu [_] (.loadCol1 ty3 (.plain rfl) rfl rfl rfl (fun _ => by omega))
    apply Trace.pu [] (.move (.plain rfl))
    apply Trace.pu [] (.arith (.plain rfl) (.plain rfl) rfl (fun _ => bd64 (by omega)))
    first | apply Trace.pu [] (.indexRows el22 (.plain rfl) (.plain rfl) (fun _ => ⟨by omega, by omega⟩)) | apply Trace.pu [] (.indexOwn el22 (.plain rfl) (.plain rfl) (fun _ => ⟨by omega, by omega⟩)) | apply Trace.pu [] (.indexSl el22 (.plain rfl) (.plain rfl) (fun _ => ⟨by omega, by omega⟩))
    first | apply Trace.storeD ty3 (.plain rfl) (.plain rfl) rfl rfl rfl (by simp [AV.oneB, single]) (Nat.le_of_ble_eq_true rfl) rfl | apply Trace.storeDA ty3 (.plain rfl) (.plain rfl) rfl rfl rfl (by simp [AV.oneB, single]) (Nat.le_of_ble_eq_true rfl) rfl | apply Trace.storeLoc ty3 (.plain rfl) (.plain rfl) rfl rfl rfl (by simp [AV.oneB, single]) (Nat.le_of_ble_eq_true rfl) rfl | apply Trace.storeRow ty3 (.plain rfl) (.plain rfl) rfl rfl rfl rfl (by decide) (by simp [AV.oneB, single]) rfl (by omega)
    exact .nil _
  · exact keepOK_of hk hn rfl
  refine ⟨.inl rfl, ⟨_, (.nil), ?_⟩, blks_of (.cons rfl (.cons rfl .nil))⟩
  rfl

/-- soundpost/certify.isFlow$2 -/
theorem spec51 (x : Int) : FnSpec Try.prog 51 [iv .i64 x] [] (bv (!decide (x = 0))) [] [] := by
  refine fnSpec_of (rs := [.tmp 2]) Try.func51 rfl rfl (Nat.le_of_ble_eq_true rfl) (by simp [St.get]) fun E hk hn => ?_
  apply WPA.seq
  apply WPA.region
  · apply Trace.pu [] (.assign (.plain rfl))
    exact .nil _
  · exact keepOK_of hk hn rfl
  apply WPA.seq
  apply WPA.region
  · apply Trace.pu [] (.move (.plain rfl))
    apply Trace.pu [] (.cmp (.plain rfl) (.plain rfl) rfl)
    apply Trace.pu [] (.assign (.plain rfl))
    exact .nil _
  · exact keepOK_of hk hn rfl
  apply WPA.ret
  refine ⟨.inr rfl, ⟨_, (.cons (.tmp rfl) .nil), ?_⟩, by simp [St.get]⟩
  rfl

/-- soundpost/certify.isFlow -/
theorem spec35 {g : Gr} (hok : g.OK) (fl : List Int) (hfl : fl.length ≤ 4611686018427387904) : FnSpec Try.prog 35 [g.av, .d (intsD fl)] [] (bv (g.flowB fl)) [] [] := by
  have hn1 := hok.n
  have hn2 := hok.m
  refine fnSpec_of (rs := [.tmp 4]) Try.func35 rfl rfl (Nat.le_of_ble_eq_true rfl) (by simp [St.get]) fun E hk hn => ?_
  apply WPA.seq
  apply WPA.region
  · first | apply Trace.boxD 2 [] (.plain rfl) rfl rfl | apply Trace.box 2 [] (.plain rfl) rfl rfl rfl
    apply Trace.pu [] (.assign (.plain rfl))
    exact .nil _
  · exact keepOK_of hk hn rfl
  apply WPA.seq
  apply WPA.seq
  apply WPA.region
  · apply Trace.pu [] (.move (.plain rfl))
    apply Trace.pu [] (.len rfl Try.underlying22 (.plain rfl) rfl)
    apply Trace.pu [] (.fieldAddr fl25_1 (.plain rfl) rfl)
    first | apply Trace.pu [_] (.loadLoc1D ty23 (.plain rfl) rfl rfl) | apply Trace.pu [_] (.loadLoc1 ty23 (.plain rfl) rfl rfl) | apply Trace.pu [] (.loadRp1 ty23 (.plain rfl) rfl) | apply Trace.pu [_] (.loadCol1 ty23 (.plain rfl) rfl rfl rfl (fun _ => by omega))
    apply Trace.pu [] (.len rfl Try.underlying23 (.plain rfl) rfl)
    apply Trace.pu [] (.cmp (.plain rfl) (.plain rfl) rfl)
    exact .nil _
  · exact keepOK_of hk hn rfl
  refine WPA.cond rfl (fun hc1 => ?_) (fun hc1 => ?_)
  · have hl : ¬ (fl.length = g.es.length) := by
      have : ((fl.length : Int) ≠ g.es.length) := by simpa using hc1
      omega
    have hM : g.flowB fl = false := by unfold Gr.flowB; rw [decide_eq_false hl]; rfl
    apply WPA.seq
    apply WPA.region
    · apply Trace.pu [] (.assign (.plain rfl))
      exact .nil _
    · exact keepOK_of hk hn rfl
    apply WPA.ret
    refine ⟨.inr rfl, ⟨_, (.cons (.tmp rfl) .nil), ?_⟩, by simp [St.get]⟩
    rw [hM]; rfl
  · have hl : fl.length = g.es.length := by
      have : ¬ ((fl.length : Int) ≠ g.es.length) := by simpa using hc1
      omega
    apply WPA.skip
    apply WPA.seq
    apply WPA.region
    · apply Trace.pu [] (.fieldAddr fl25_0 (.plain rfl) rfl)
      first | apply Trace.pu [_] (.loadLoc1D ty22 (.plain rfl) rfl rfl) | apply Trace.pu [_] (.loadLoc1 ty22 (.plain rfl) rfl rfl) | apply Trace.pu [] (.loadRp1 ty22 (.plain rfl) rfl) | apply Trace.pu [_] (.loadCol1 ty22 (.plain rfl) rfl rfl rfl (fun _ => by omega))
      apply Trace.pu [] (.len rfl Try.underlying22 (.plain rfl) rfl)
      apply Trace.makeSlice 18 [] so22 by3 zo3 rfl (by decide) (.plain rfl) (.plain rfl) ⟨by omega, by omega⟩ (by omega) (by omega) rfl rfl
      apply Trace.alloc 5 [] (.data _) zo22 (cellsAs_data _) rfl
      first | apply Trace.storeD ty22 (.plain rfl) (.plain rfl) rfl rfl rfl (by simp [AV.oneB, single]) (Nat.le_of_ble_eq_true rfl) rfl | apply Trace.storeDA ty22 (.plain rfl) (.plain rfl) rfl rfl rfl (by simp [AV.oneB, single]) (Nat.le_of_ble_eq_true rfl) rfl | apply Trace.storeLoc ty22 (.plain rfl) (.plain rfl) rfl rfl rfl (by simp [AV.oneB, single]) (Nat.le_of_ble_eq_true rfl) rfl | apply Trace.storeRow ty22 (.plain rfl) (.plain rfl) rfl rfl rfl rfl (by decide) (by simp [AV.oneB, single]) rfl (by omega)
      exact .nil _
    · exact keepOK_of hk hn rfl
    apply WPA.seq
    apply WPA.region
    · apply Trace.pu [] (.funcL (.cons (.plain rfl) .nil))
      apply Trace.pu [] (.assign (.plain rfl))
      exact .nil _
    · exact keepOK_of hk hn rfl
    apply WPA.seq
    apply WPA.seq
    apply WPA.region
    · apply Trace.pu [] (.fieldAddr fl25_1 (.plain rfl) rfl)
      first | apply Trace.pu [_] (.loadLoc1D ty23 (.plain rfl) rfl rfl) | apply Trace.pu [_] (.loadLoc1 ty23 (.plain rfl) rfl rfl) | apply Trace.pu [] (.loadRp1 ty23 (.plain rfl) rfl) | apply Trace.pu [_] (.loadCol1 ty23 (.plain rfl) rfl rfl rfl (fun _ => by omega))
      apply Trace.pu [] (.len rfl Try.underlying23 (.plain rfl) rfl)
      apply Trace.pu [] (.move (.plain rfl))
      exact .nil _
    · exact keepOK_of hk hn rfl
    apply WPA.block
    refine WPA.loop (σ := Nat) (fun i => [(sl 1, .av (.d (intsD fl))), (sl 2, .av (.loc 2 0)), (sl 5, .av (.loc 5 0)), (sl 6, .av (.fn 50 [.loc 5 0])), (sl 21, .av (.d (edgesD g.es))), (sl 22, .av (iv .i64 (g.es.length))), (sl 23, .av (iv .i64 (i))), (bk 2, .blk (.data g.ds)), (bk 5, .blk (.cells [.own 18 g.lat.length])), (bk 18, .blk (.app 1 g.lat.length [.ints .i64 (leftTo g fl i)]))]) (fun i => i ≤ g.es.length ∧ ∀ j, j < i → flOk (fl.getD j 0) = true) (fun i => g.es.length - i) 0
      (St.le_cons rfl (St.le_cons rfl (St.le_cons rfl (St.le_cons rfl (St.le_cons rfl (St.le_cons rfl (St.le_cons rfl (St.le_cons rfl (St.le_cons rfl (St.le_cons rfl (St.le_nil _))))))))))) ⟨Nat.zero_le _, fun j h => by omega⟩ fun i hi => ?_
    apply WPA.seq
    apply WPA.region
    · apply Trace.pu [] (.cmp (.plain rfl) (.plain rfl) rfl)
      exact .nil _
    · exact keepOK_of hk hn rfl
    apply WPA.seq
    refine WPA.cond rfl (fun hc2 => ?_) (fun hc2 => ?_)
    · have hlt : i < g.es.length := by simpa using hc2
      obtain ⟨e, he⟩ : ∃ e, g.es.getD i default = e := ⟨_, rfl⟩
      have hem : e ∈ g.es := by rw [← he]; exact (Gr.edge hok hlt).1
      obtain ⟨he1, he2, he3, he4, he5, he6, he7, he8, he9, he10⟩ := Gr.edge_mem hok hem
      have hed : g.ed i = e := he
      have hll := leftTo_len g fl i
      have hlb := leftTo_bd hok i hi.1 hi.2
      apply WPA.skip
      apply WPA.seq
      apply WPA.block
      apply WPA.seq
      apply WPA.region
      · apply Trace.pu [] (.move (.plain rfl))
        apply Trace.pu [] ((Pure.indexRows el23 (.plain rfl) (.plain rfl) (fun _ => ⟨by omega, by omega⟩)).to (y := .rp e.ds) (by show AV.rp (g.es.getD i default).ds = _; rw [he]))
        first | apply Trace.pu [_] (.loadAllD ty34 (.plain rfl) rfl (by simp)) | apply Trace.pu [_] (.loadLocD ty34 (.plain rfl) rfl (fun _ => by simp)) | apply Trace.pu [_] (.loadLoc ty34 (.plain rfl) rfl (fun _ => Nat.le_of_ble_eq_true rfl)) | apply Trace.pu [] (.loadRp ty34 (.plain rfl) (fun _ => by decide)) | apply Trace.pu [] (.loadRp ty34 (.plain rfl) (fun _ => Nat.le_of_ble_eq_true rfl)) | apply Trace.pu [_] (.loadCol ty34 (.plain rfl) rfl rfl (fun _ => by decide) (fun _ => by omega)) | apply Trace.pu [_] (.loadArr ty34 (.plain rfl) rfl)
        apply Trace.alloc 8 [] (.data _) zo34 (cellsAs_data _) rfl
        apply Trace.pu [] (.assign (.plain rfl))
        first | apply Trace.storeD ty34 (.plain rfl) (.plain rfl) rfl rfl (by simp) (by simp [AV.oneB, single]) (by simp) (spliceL_all (by simp)) | apply Trace.storeD ty34 (.plain rfl) (.plain rfl) rfl rfl (by simp) (by simp [AV.oneB, single]) (by simp) rfl | apply Trace.storeDA ty34 (.plain rfl) (.plain rfl) rfl rfl (by simp) (by simp [AV.oneB, single]) (by simp) rfl | apply Trace.storeLoc ty34 (.plain rfl) (.plain rfl) rfl rfl (by simp) (by simp [AV.oneB, single]) (by simp) rfl | apply Trace.storeRow ty34 (.plain rfl) (.plain rfl) rfl rfl rfl rfl (by decide) (by simp [AV.oneB, single]) rfl (by omega)
        exact .nil _
      · exact keepOK_of hk hn rfl
      apply WPA.seq
      apply WPA.seq
      apply WPA.region
      · apply Trace.pu [] (.move (.plain rfl))
        apply Trace.pu [] (.move (.plain rfl))
        first | apply Trace.pu [] (.indexRows el22 (.plain rfl) (.plain rfl) (fun _ => ⟨by omega, by omega⟩)) | apply Trace.pu [] (.indexOwn el22 (.plain rfl) (.plain rfl) (fun _ => ⟨by omega, by omega⟩)) | apply Trace.pu [] (.indexSl el22 (.plain rfl) (.plain rfl) (fun _ => ⟨by omega, by omega⟩))
        first | apply Trace.pu [_] (.loadLoc1D ty3 (.plain rfl) rfl rfl) | apply Trace.pu [_] (.loadLoc1 ty3 (.plain rfl) rfl rfl) | apply Trace.pu [] (.loadRp1 ty3 (.plain rfl) rfl) | apply Trace.pu [_] (.loadCol1 ty3 (.plain rfl) rfl rfl rfl (fun _ => by omega))
        apply Trace.pu [] (.cmp (.plain rfl) (.plain rfl) rfl)
        apply Trace.pu [] (.move (.plain rfl))
        apply Trace.pg [] rfl (.move (.plain rfl))
        apply Trace.pg [] rfl (.move (.plain rfl))
        first | apply Trace.pg [] rfl (.indexRows el22 (.gd rfl (fun h => h)) (.gd rfl (fun h => h)) (fun _ => ⟨by omega, by omega⟩)) | apply Trace.pg [] rfl (.indexOwn el22 (.gd rfl (fun h => h)) (.gd rfl (fun h => h)) (fun _ => ⟨by omega, by omega⟩)) | apply Trace.pg [] rfl (.indexSl el22 (.gd rfl (fun h => h)) (.gd rfl (fun h => h)) (fun _ => ⟨by omega, by omega⟩))
        first | apply Trace.pg [_] rfl (.loadLoc1D ty3 (.gd rfl (fun h => h)) rfl rfl) | apply Trace.pg [_] rfl (.loadLoc1 ty3 (.gd rfl (fun h => h)) rfl rfl) | apply Trace.pg [] rfl (.loadRp1 ty3 (.gd rfl (fun h => h)) rfl) | apply Trace.pg [_] rfl (.loadCol1 ty3 (.gd rfl (fun h => h)) rfl rfl rfl (fun _ => by omega))
        apply Trace.pg [] rfl (.cmp (.gd rfl (fun h => h)) (.plain rfl) rfl)
        apply Trace.pu [] (.pick (.plain rfl) (.plain rfl) (.gd rfl (by simp)))
        exact .nil _
      · exact keepOK_of hk hn rfl
      refine WPA.cond rfl (fun hc3 => ?_) (fun hc3 => ?_)
      · have hx : flOk (fl.getD i 0) = false := by
          have h9 : (bif decide (fl.getD i 0 < 0) then true else decide (1048576 < fl.getD i 0)) = true := hc3
          rw [bif_or, Bool.or_eq_true, decide_eq_true_eq, decide_eq_true_eq] at h9
          exact decide_eq_false (by omega)
        have hM : g.flowB fl = false := by
          unfold Gr.flowB
          rw [show fl.all flOk = false from by
            cases h8 : fl.all flOk with
            | false => rfl
            | true => rw [all_getD.1 h8 i (by omega)] at hx; cases hx]
          simp
        apply WPA.seq
        apply WPA.region
        · apply Trace.pu [] (.assign (.plain rfl))
          exact .nil _
        · exact keepOK_of hk hn rfl
        apply WPA.ret
        refine ⟨.inr rfl, ⟨_, (.cons (.tmp rfl) .nil), ?_⟩, by simp [St.get]⟩
        rw [hM]; rfl
      · have hx : flOk (fl.getD i 0) = true := by
          have h9 : (bif decide (fl.getD i 0 < 0) then true else decide (1048576 < fl.getD i 0)) = false := hc3
          rw [bif_or, Bool.or_eq_false_iff, decide_eq_false_iff_not, decide_eq_false_iff_not] at h9
          exact decide_eq_true (by omega)
        have hx2 := flOk_iff.1 hx
        have hx3 : 0 ≤ fl.getD ((i : Nat) : Int).toNat 0 ∧ fl.getD ((i : Nat) : Int).toNat 0 ≤ 1048576 := hx2
        have hb1 := hlb e.t.toNat
        have hb2 := hlb e.f.toNat
        have hset : (((leftTo g fl i).set e.t.toNat ((leftTo g fl i).getD e.t.toNat 0 + (e.w - fl.getD i 0))).length) = g.lat.length := by simpa using hll
        have hsg : ((leftTo g fl i).set e.t.toNat ((leftTo g fl i).getD e.t.toNat 0 + (e.w - fl.getD i 0))).getD e.f.toNat 0 = if e.t.toNat = e.f.toNat then (leftTo g fl i).getD e.t.toNat 0 + (e.w - fl.getD i 0) else (leftTo g fl i).getD e.f.toNat 0 := getD_set (by omega)
        have hnx : leftTo g fl (i + 1) = ((leftTo g fl i).set e.t.toNat ((leftTo g fl i).getD e.t.toNat 0 + (e.w - fl.getD i 0))).set e.f.toNat (((leftTo g fl i).set e.t.toNat ((leftTo g fl i).getD e.t.toNat 0 + (e.w - fl.getD i 0))).getD e.f.toNat 0 + (fl.getD i 0 - e.w)) := by rw [← hed]; rfl
        apply WPA.skip
        apply WPA.seq
        apply WPA.draw mixed
        · apply Trace.pu [] (.move (.plain rfl))
          apply Trace.pu [] (.fieldAddr fl34_1 (.plain rfl) rfl)
          first | apply Trace.pu [_] (.loadLoc1D ty3 (.plain rfl) rfl rfl) | apply Trace.pu [_] (.loadLoc1 ty3 (.plain rfl) rfl rfl) | apply Trace.pu [] (.loadRp1 ty3 (.plain rfl) rfl) | apply Trace.pu [_] (.loadCol1 ty3 (.plain rfl) rfl rfl rfl (fun _ => by omega))
          apply Trace.pu [] (.fieldAddr fl34_2 (.plain rfl) rfl)
          first | apply Trace.pu [_] (.loadLoc1D ty3 (.plain rfl) rfl rfl) | apply Trace.pu [_] (.loadLoc1 ty3 (.plain rfl) rfl rfl) | apply Trace.pu [] (.loadRp1 ty3 (.plain rfl) rfl) | apply Trace.pu [_] (.loadCol1 ty3 (.plain rfl) rfl rfl rfl (fun _ => by omega))
          apply Trace.pu [] (.move (.plain rfl))
          apply Trace.pu [] (.move (.plain rfl))
          first | apply Trace.pu [] (.indexRows el22 (.plain rfl) (.plain rfl) (fun _ => ⟨by omega, by omega⟩)) | apply Trace.pu [] (.indexOwn el22 (.plain rfl) (.plain rfl) (fun _ => ⟨by omega, by omega⟩)) | apply Trace.pu [] (.indexSl el22 (.plain rfl) (.plain rfl) (fun _ => ⟨by omega, by omega⟩))
          first | apply Trace.pu [_] (.loadLoc1D ty3 (.plain rfl) rfl rfl) | apply Trace.pu [_] (.loadLoc1 ty3 (.plain rfl) rfl rfl) | apply Trace.pu [] (.loadRp1 ty3 (.plain rfl) rfl) | apply Trace.pu [_] (.loadCol1 ty3 (.plain rfl) rfl rfl rfl (fun _ => by omega))
          apply Trace.pu [] (.arith (.plain rfl) (.plain rfl) rfl (fun _ => bd64 (by omega)))
          apply Trace.cb [] [bk 5, bk 18] (callArgs (.plain rfl) (.cons (.plain rfl) (.cons (.plain rfl) .nil))) (spec50 hll e.t (e.w - fl.getD i 0) he3 he4 (by omega)) en50 (.cons rfl (.cons rfl .nil)) rfl rfl
          exact .nil _
        · rfl
        · exact keepOK_of hk hn rfl
        apply WPA.draw mixed
        · apply Trace.pu [] (.move (.plain rfl))
          apply Trace.pu [] (.fieldAddr fl34_0 (.plain rfl) rfl)
          first | apply Trace.pu [_] (.loadLoc1D ty3 (.plain rfl) rfl rfl) | apply Trace.pu [_] (.loadLoc1 ty3 (.plain rfl) rfl rfl) | apply Trace.pu [] (.loadRp1 ty3 (.plain rfl) rfl) | apply Trace.pu [_] (.loadCol1 ty3 (.plain rfl) rfl rfl rfl (fun _ => by omega))
          apply Trace.pu [] (.move (.plain rfl))
          apply Trace.pu [] (.move (.plain rfl))
          first | apply Trace.pu [] (.indexRows el22 (.plain rfl) (.plain rfl) (fun _ => ⟨by omega, by omega⟩)) | apply Trace.pu [] (.indexOwn el22 (.plain rfl) (.plain rfl) (fun _ => ⟨by omega, by omega⟩)) | apply Trace.pu [] (.indexSl el22 (.plain rfl) (.plain rfl) (fun _ => ⟨by omega, by omega⟩))
          first | apply Trace.pu [_] (.loadLoc1D ty3 (.plain rfl) rfl rfl) | apply Trace.pu [_] (.loadLoc1 ty3 (.plain rfl) rfl rfl) | apply Trace.pu [] (.loadRp1 ty3 (.plain rfl) rfl) | apply Trace.pu [_] (.loadCol1 ty3 (.plain rfl) rfl rfl rfl (fun _ => by omega))
          apply Trace.pu [] (.fieldAddr fl34_2 (.plain rfl) rfl)
          first | apply Trace.pu [_] (.loadLoc1D ty3 (.plain rfl) rfl rfl) | apply Trace.pu [_] (.loadLoc1 ty3 (.plain rfl) rfl rfl) | apply Trace.pu [] (.loadRp1 ty3 (.plain rfl) rfl) | apply Trace.pu [_] (.loadCol1 ty3 (.plain rfl) rfl rfl rfl (fun _ => by omega))
          apply Trace.pu [] (.arith (.plain rfl) (.plain rfl) rfl (fun _ => bd64 (by omega)))
          apply Trace.cb [] [bk 5, bk 18] (callArgs (.plain rfl) (.cons (.plain rfl) (.cons (.plain rfl) .nil))) (spec50 hset e.f (fl.getD i 0 - e.w) he1 he2 (by rw [hsg]; split <;> omega)) en50 (.cons rfl (.cons rfl .nil)) rfl rfl
          exact .nil _
        · rfl
        · exact keepOK_of hk hn rfl
        apply WPA.region
        · apply Trace.pu [] (.arith (.plain rfl) (.plain rfl) rfl (fun _ => bd64 (by omega)))
          apply Trace.pu [] (.move (.plain rfl))
          exact .nil _
        · exact keepOK_of hk hn rfl
        exact ⟨i + 1, ⟨by omega, fun j h => by
          by_cases hj : j = i
          · rw [hj]; exact hx
          · exact hi.2 j (by omega)⟩, by omega, St.le_cons rfl (St.le_cons rfl (St.le_cons rfl (St.le_cons rfl (St.le_cons rfl (St.le_cons rfl (St.le_cons (slI (by omega)) (St.le_cons rfl (St.le_cons rfl (St.le_cons (app_eq64 hnx.symm) (St.le_nil _))))))))))⟩
    · have him : i = g.es.length := by
        have : ¬ ((i : Int) < g.es.length) := by simpa using hc2
        omega
      subst him
      have hll := leftTo_len g fl g.es.length
      apply WPA.exit
      apply WPA.seq
      refine WPA.ghost (Ghost.cellFreeze (lb := 5) (j := 0) (l := 18) (g := fun k => [Col.at (.ints .i64 (leftTo g fl g.es.length)) k]) rfl rfl rfl rfl (fun k hk => rfl) rfl) ?_
      refine WPA.weaken (T := [(sl 5, .av (.loc 5 0)), (bk 5, .blk (.cells [.d (intsD (leftTo g fl g.es.length))]))]) ?_ (St.le_cons rfl (St.le_cons (congrArg (fun z => some (Cont.blk (.cells [.d z]))) (intsD_len hll).symm) (St.le_nil _)))
      apply WPA.region
      · first | apply Trace.pu [_] (.loadLoc1D ty22 (.plain rfl) rfl rfl) | apply Trace.pu [_] (.loadLoc1 ty22 (.plain rfl) rfl rfl) | apply Trace.pu [] (.loadRp1 ty22 (.plain rfl) rfl) | apply Trace.pu [_] (.loadCol1 ty22 (.plain rfl) rfl rfl rfl (fun _ => by omega))
        apply Trace.cu (callArgs0 (.cons (.plain rfl) (.cons (.plain rfl) .nil))) (spec36 spec51 en51 (leftTo g fl g.es.length) (by omega)) en36
        apply Trace.pu [] (.not (.plain rfl))
        apply Trace.pu [] (.assign (.plain rfl))
        exact .nil _
      · exact keepOK_of hk hn rfl
      apply WPA.ret
      refine ⟨.inr rfl, ⟨_, (.cons (.tmp rfl) .nil), ?_⟩, by simp [St.get]⟩
      have hM : g.flowB fl = !((leftTo g fl g.es.length).any fun x => !decide (x = 0)) := by
        unfold Gr.flowB
        rw [decide_eq_true hl, all_getD.2 fun j hj => hi.2 j (by omega), Bool.true_and, Bool.true_and, List.all_eq_not_any_not]
      rw [hM]; rfl

/-- soundpost/certify.bound -/
theorem spec34 {g : Gr} (hok : g.OK) {fl : List Int} (hl : fl.length = g.es.length) (hb : ∀ i, i < g.es.length → 0 ≤ fn fl i ∧ fn fl i ≤ 1048576) : FnSpec Try.prog 34 [g.av, .d (intsD fl)] [] (iv .i64 (g.bnd fl g.es.length)) [] [] := by
  have hn1 := hok.n
  have hn2 := hok.m
  refine fnSpec_of (rs := [.tmp 4]) Try.func34 rfl rfl (Nat.le_of_ble_eq_true rfl) (by simp [St.get]) fun E hk hn => ?_
  apply WPA.seq
  apply WPA.region
  · first | apply Trace.boxD 2 [] (.plain rfl) rfl rfl | apply Trace.box 2 [] (.plain rfl) rfl rfl rfl
    apply Trace.pu [] (.assign (.plain rfl))
    exact .nil _
  · exact keepOK_of hk hn rfl
  apply WPA.seq
  apply WPA.seq
  apply WPA.region
  · apply Trace.pu [] (.fieldAddr fl25_1 (.plain rfl) rfl)
    first | apply Trace.pu [_] (.loadLoc1D ty23 (.plain rfl) rfl rfl) | apply Trace.pu [_] (.loadLoc1 ty23 (.plain rfl) rfl rfl) | apply Trace.pu [] (.loadRp1 ty23 (.plain rfl) rfl) | apply Trace.pu [_] (.loadCol1 ty23 (.plain rfl) rfl rfl rfl (fun _ => by omega))
    apply Trace.pu [] (.len rfl Try.underlying23 (.plain rfl) rfl)
    apply Trace.pu [] (.move (.plain rfl))
    exact .nil _
  · exact keepOK_of hk hn rfl
  apply WPA.block
  refine WPA.loop (σ := Nat) (fun i => [(sl 1, .av (.d (intsD fl))), (sl 2, .av (.loc 2 0)), (sl 4, .av (iv .i64 (g.bnd fl i))), (sl 8, .av (.d (edgesD g.es))), (sl 9, .av (iv .i64 (g.es.length))), (sl 10, .av (iv .i64 (i))), (bk 2, .blk (.data g.ds))]) (fun i => i ≤ g.es.length) (fun i => g.es.length - i) 0
    (St.le_cons rfl (St.le_cons rfl (St.le_cons rfl (St.le_cons rfl (St.le_cons rfl (St.le_cons rfl (St.le_cons rfl (St.le_nil _)))))))) (Nat.zero_le _) fun i hi => ?_
  apply WPA.seq
  apply WPA.region
  · apply Trace.pu [] (.cmp (.plain rfl) (.plain rfl) rfl)
    exact .nil _
  · exact keepOK_of hk hn rfl
  apply WPA.seq
  refine WPA.cond rfl (fun hc1 => ?_) (fun hc1 => ?_)
  · have hlt : i < g.es.length := by simpa using hc1
    obtain ⟨e, he⟩ : ∃ e, g.es.getD i default = e := ⟨_, rfl⟩
    have hem : e ∈ g.es := by rw [← he]; exact (Gr.edge hok hlt).1
    obtain ⟨he1, he2, he3, he4, he5, he6, he7, he8, he9, he10⟩ := Gr.edge_mem hok hem
    have hed : g.ed i = e := he
    have hbi := hb i hlt
    have hbi2 : 0 ≤ fl.getD ((i : Nat) : Int).toNat 0 ∧ fl.getD ((i : Nat) : Int).toNat 0 ≤ 1048576 := hbi
    have hbb := bnd_bd hok hb i hi
    have hbb2 := bnd_bd hok hb (i + 1) hlt
    have hbt := term_bd hok hb hlt
    rw [bnd_succ, hed] at hbb2
    rw [hed] at hbt
    have hbt2 : -1103806595072 ≤ (e.w - fl.getD ((i : Nat) : Int).toNat 0) * (e.d - g.lat.getD e.f.toNat 0) ∧ (e.w - fl.getD ((i : Nat) : Int).toNat 0) * (e.d - g.lat.getD e.f.toNat 0) ≤ 1103806595072 := hbt
    have hbs := bnd_succ g fl i
    rw [hed] at hbs
    apply WPA.skip
    apply WPA.seq
    apply WPA.block
    apply WPA.seq
    apply WPA.region
    · apply Trace.pu [] (.move (.plain rfl))
      apply Trace.pu [] ((Pure.indexRows el23 (.plain rfl) (.plain rfl) (fun _ => ⟨by omega, by omega⟩)).to (y := .rp e.ds) (by show AV.rp (g.es.getD i default).ds = _; rw [he]))
      first | apply Trace.pu [_] (.loadAllD ty34 (.plain rfl) rfl (by simp)) | apply Trace.pu [_] (.loadLocD ty34 (.plain rfl) rfl (fun _ => by simp)) | apply Trace.pu [_] (.loadLoc ty34 (.plain rfl) rfl (fun _ => Nat.le_of_ble_eq_true rfl)) | apply Trace.pu [] (.loadRp ty34 (.plain rfl) (fun _ => by decide)) | apply Trace.pu [] (.loadRp ty34 (.plain rfl) (fun _ => Nat.le_of_ble_eq_true rfl)) | apply Trace.pu [_] (.loadCol ty34 (.plain rfl) rfl rfl (fun _ => by decide) (fun _ => by omega)) | apply Trace.pu [_] (.loadArr ty34 (.plain rfl) rfl)
      apply Trace.alloc 6 [] (.data _) zo34 (cellsAs_data _) rfl
      apply Trace.pu [] (.assign (.plain rfl))
      first | apply Trace.storeD ty34 (.plain rfl) (.plain rfl) rfl rfl (by simp) (by simp [AV.oneB, single]) (by simp) (spliceL_all (by simp)) | apply Trace.storeD ty34 (.plain rfl) (.plain rfl) rfl rfl (by simp) (by simp [AV.oneB, single]) (by simp) rfl | apply Trace.storeDA ty34 (.plain rfl) (.plain rfl) rfl rfl (by simp) (by simp [AV.oneB, single]) (by simp) rfl | apply Trace.storeLoc ty34 (.plain rfl) (.plain rfl) rfl rfl (by simp) (by simp [AV.oneB, single]) (by simp) rfl | apply Trace.storeRow ty34 (.plain rfl) (.plain rfl) rfl rfl rfl rfl (by decide) (by simp [AV.oneB, single]) rfl (by omega)
      exact .nil _
    · exact keepOK_of hk hn rfl
    apply WPA.draw mixed
    · apply Trace.pu [] (.move (.plain rfl))
      apply Trace.pu [] (.fieldAddr fl34_2 (.plain rfl) rfl)
      first | apply Trace.pu [_] (.loadLoc1D ty3 (.plain rfl) rfl rfl) | apply Trace.pu [_] (.loadLoc1 ty3 (.plain rfl) rfl rfl) | apply Trace.pu [] (.loadRp1 ty3 (.plain rfl) rfl) | apply Trace.pu [_] (.loadCol1 ty3 (.plain rfl) rfl rfl rfl (fun _ => by omega))
      apply Trace.pu [] (.move (.plain rfl))
      apply Trace.pu [] (.move (.plain rfl))
      first | apply Trace.pu [] (.indexRows el22 (.plain rfl) (.plain rfl) (fun _ => ⟨by omega, by omega⟩)) | apply Trace.pu [] (.indexOwn el22 (.plain rfl) (.plain rfl) (fun _ => ⟨by omega, by omega⟩)) | apply Trace.pu [] (.indexSl el22 (.plain rfl) (.plain rfl) (fun _ => ⟨by omega, by omega⟩))
      first | apply Trace.pu [_] (.loadLoc1D ty3 (.plain rfl) rfl rfl) | apply Trace.pu [_] (.loadLoc1 ty3 (.plain rfl) rfl rfl) | apply Trace.pu [] (.loadRp1 ty3 (.plain rfl) rfl) | apply Trace.pu [_] (.loadCol1 ty3 (.plain rfl) rfl rfl rfl (fun _ => by omega))
      apply Trace.pu [] (.arith (.plain rfl) (.plain rfl) rfl (fun _ => bd64 (by omega)))
      apply Trace.pu [] (.fieldAddr fl34_3 (.plain rfl) rfl)
      first | apply Trace.pu [_] (.loadLoc1D ty3 (.plain rfl) rfl rfl) | apply Trace.pu [_] (.loadLoc1 ty3 (.plain rfl) rfl rfl) | apply Trace.pu [] (.loadRp1 ty3 (.plain rfl) rfl) | apply Trace.pu [_] (.loadCol1 ty3 (.plain rfl) rfl rfl rfl (fun _ => by omega))
      apply Trace.pu [] (.fieldAddr fl25_0 (.plain rfl) rfl)
      first | apply Trace.pu [_] (.loadLoc1D ty22 (.plain rfl) rfl rfl) | apply Trace.pu [_] (.loadLoc1 ty22 (.plain rfl) rfl rfl) | apply Trace.pu [] (.loadRp1 ty22 (.plain rfl) rfl) | apply Trace.pu [_] (.loadCol1 ty22 (.plain rfl) rfl rfl rfl (fun _ => by omega))
      apply Trace.pu [] (.fieldAddr fl34_0 (.plain rfl) rfl)
      first | apply Trace.pu [_] (.loadLoc1D ty3 (.plain rfl) rfl rfl) | apply Trace.pu [_] (.loadLoc1 ty3 (.plain rfl) rfl rfl) | apply Trace.pu [] (.loadRp1 ty3 (.plain rfl) rfl) | apply Trace.pu [_] (.loadCol1 ty3 (.plain rfl) rfl rfl rfl (fun _ => by omega))
      first | apply Trace.pu [] (.indexRows el22 (.plain rfl) (.plain rfl) (fun _ => ⟨by omega, by omega⟩)) | apply Trace.pu [] (.indexOwn el22 (.plain rfl) (.plain rfl) (fun _ => ⟨by omega, by omega⟩)) | apply Trace.pu [] (.indexSl el22 (.plain rfl) (.plain rfl) (fun _ => ⟨by omega, by omega⟩))
      first | apply Trace.pu [_] (.loadLoc1D ty3 (.plain rfl) rfl rfl) | apply Trace.pu [_] (.loadLoc1 ty3 (.plain rfl) rfl rfl) | apply Trace.pu [] (.loadRp1 ty3 (.plain rfl) rfl) | apply Trace.pu [_] (.loadCol1 ty3 (.plain rfl) rfl rfl rfl (fun _ => by omega))
      apply Trace.pu [] (.arith (.plain rfl) (.plain rfl) rfl (fun _ => bd64 (by omega)))
      apply Trace.pu [] (.arith (.plain rfl) (.plain rfl) rfl (fun _ => bd64 (by omega)))
      apply Trace.pu [] (.arith (.plain rfl) (.plain rfl) rfl (fun _ => bd64 (by omega)))
      apply Trace.pu [] (.assign (.plain rfl))
      exact .nil _
    · rfl
    · exact keepOK_of hk hn rfl
    apply WPA.region
    · apply Trace.pu [] (.arith (.plain rfl) (.plain rfl) rfl (fun _ => bd64 (by omega)))
      apply Trace.pu [] (.move (.plain rfl))
      exact .nil _
    · exact keepOK_of hk hn rfl
    exact ⟨i + 1, by omega, by omega, St.le_cons rfl (St.le_cons rfl (St.le_cons (slI hbs.symm) (St.le_cons rfl (St.le_cons rfl (St.le_cons (slI (by omega)) (St.le_cons rfl (St.le_nil _)))))))⟩
  · apply WPA.exit
    apply WPA.seq
    apply WPA.region
    · apply Trace.pu [] (.move (.plain rfl))
      apply Trace.pu [] (.assign (.plain rfl))
      exact .nil _
    · exact keepOK_of hk hn rfl
    apply WPA.ret
    refine ⟨.inr rfl, ⟨_, (.cons (.tmp rfl) .nil), ?_⟩, by simp [St.get]⟩
    have him : i = g.es.length := by
      have : ¬ ((i : Int) < g.es.length) := by simpa using hc1
      omega
    subst him
    rfl

/-- slices.Equal[[]int,int] -/
theorem spec48 (a b : List Int) (ha : a.length ≤ 4611686018427387904) (hb : b.length ≤ 4611686018427387904) : FnSpec Try.prog 48 [.d (intsD a), .d (intsD b)] [] (bv (decide (a = b))) [] [] := by
  refine fnSpec_of (rs := [.tmp 4]) Try.func48 rfl rfl (Nat.le_of_ble_eq_true rfl) (by simp [St.get]) fun E hk hn => ?_
  apply WPA.seq
  apply WPA.region
  · apply Trace.pu [] (.assign (.plain rfl))
    exact .nil _
  · exact keepOK_of hk hn rfl
  apply WPA.seq
  apply WPA.seq
  apply WPA.region
  · apply Trace.pu [] (.move (.plain rfl))
    apply Trace.pu [] (.len rfl Try.underlying22 (.plain rfl) rfl)
    apply Trace.pu [] (.move (.plain rfl))
    apply Trace.pu [] (.len rfl Try.underlying22 (.plain rfl) rfl)
    apply Trace.pu [] (.cmp (.plain rfl) (.plain rfl) rfl)
    exact .nil _
  · exact keepOK_of hk hn rfl
  refine WPA.cond rfl (fun hc1 => ?_) (fun hc1 => ?_)
  · apply WPA.seq
    apply WPA.region
    · apply Trace.pu [] (.assign (.plain rfl))
      exact .nil _
    · exact keepOK_of hk hn rfl
    apply WPA.ret
    refine ⟨.inr rfl, ⟨_, (.cons (.tmp rfl) .nil), ?_⟩, by simp [St.get]⟩
    have hl : a.length ≠ b.length := by
      have : ((a.length : Int) ≠ b.length) := by simpa using hc1
      omega
    rw [decide_eq_false (fun e => hl (congrArg List.length e))]
    rfl
  · have hl : a.length = b.length := by
      have : ¬ ((a.length : Int) ≠ b.length) := by simpa using hc1
      omega
    apply WPA.skip
    apply WPA.seq
    apply WPA.seq
    apply WPA.region
    · apply Trace.pu [] (.move (.plain rfl))
      apply Trace.pu [] (.len rfl Try.underlying22 (.plain rfl) rfl)
      apply Trace.pu [] (.move (.plain rfl))
      exact .nil _
    · exact keepOK_of hk hn rfl
    apply WPA.block
    refine WPA.loop (σ := Nat) (fun i => [(sl 0, .av (.d (intsD a))), (sl 1, .av (.d (intsD b))), (sl 12, .av (iv .i64 (a.length))), (sl 13, .av (iv .i64 (i)))]) (fun i => i ≤ a.length ∧ ∀ j, j < i → a.getD j 0 = b.getD j 0) (fun i => a.length - i) 0
      (St.le_cons rfl (St.le_cons rfl (St.le_cons rfl (St.le_cons rfl (St.le_nil _))))) ⟨Nat.zero_le _, fun j h => by omega⟩ fun i hi => ?_
    apply WPA.seq
    apply WPA.region
    · apply Trace.pu [] (.cmp (.plain rfl) (.plain rfl) rfl)
      exact .nil _
    · exact keepOK_of hk hn rfl
    apply WPA.seq
    refine WPA.cond rfl (fun hc2 => ?_) (fun hc2 => ?_)
    · have hlt : i < a.length := by simpa using hc2
      have hbn : b.length = a.length := hl.symm
      apply WPA.skip
      apply WPA.seq
      apply WPA.block
      apply WPA.seq
      apply WPA.region
      · apply Trace.pu [] (.move (.plain rfl))
        apply Trace.pu [] (.assign (.plain rfl))
        exact .nil _
      · exact keepOK_of hk hn rfl
      apply WPA.seq
      apply WPA.draw mixed
      · apply Trace.pu [] (.move (.plain rfl))
        apply Trace.pu [] (.move (.plain rfl))
        first | apply Trace.pu [] (.indexRows el22 (.plain rfl) (.plain rfl) (fun _ => ⟨by omega, by omega⟩)) | apply Trace.pu [] (.indexOwn el22 (.plain rfl) (.plain rfl) (fun _ => ⟨by omega, by omega⟩)) | apply Trace.pu [] (.indexSl el22 (.plain rfl) (.plain rfl) (fun _ => ⟨by omega, by omega⟩))
        first | apply Trace.pu [_] (.loadLoc1D ty3 (.plain rfl) rfl rfl) | apply Trace.pu [_] (.loadLoc1 ty3 (.plain rfl) rfl rfl) | apply Trace.pu [] (.loadRp1 ty3 (.plain rfl) rfl) | apply Trace.pu [_] (.loadCol1 ty3 (.plain rfl) rfl rfl rfl (fun _ => by omega))
        apply Trace.pu [] (.move (.plain rfl))
        apply Trace.pu [] (.move (.plain rfl))
        first | apply Trace.pu [] (.indexRows el22 (.plain rfl) (.plain rfl) (fun _ => ⟨by omega, by omega⟩)) | apply Trace.pu [] (.indexOwn el22 (.plain rfl) (.plain rfl) (fun _ => ⟨by omega, by omega⟩)) | apply Trace.pu [] (.indexSl el22 (.plain rfl) (.plain rfl) (fun _ => ⟨by omega, by omega⟩))
        first | apply Trace.pu [_] (.loadLoc1D ty3 (.plain rfl) rfl rfl) | apply Trace.pu [_] (.loadLoc1 ty3 (.plain rfl) rfl rfl) | apply Trace.pu [] (.loadRp1 ty3 (.plain rfl) rfl) | apply Trace.pu [_] (.loadCol1 ty3 (.plain rfl) rfl rfl rfl (fun _ => by omega))
        apply Trace.pu [] (.cmp (.plain rfl) (.plain rfl) rfl)
        exact .nil _
      · rfl
      · exact keepOK_of hk hn rfl
      refine WPA.cond rfl (fun hc3 => ?_) (fun hc3 => ?_)
      · apply WPA.seq
        apply WPA.region
        · apply Trace.pu [] (.assign (.plain rfl))
          exact .nil _
        · exact keepOK_of hk hn rfl
        apply WPA.ret
        refine ⟨.inr rfl, ⟨_, (.cons (.tmp rfl) .nil), ?_⟩, by simp [St.get]⟩
        have hx : ¬ (a.getD i 0 = b.getD i 0) := by simpa using hc3
        rw [decide_eq_false (fun e => hx (by rw [e]))]
        rfl
      · apply WPA.skip
        apply WPA.region
        · apply Trace.pu [] (.arith (.plain rfl) (.plain rfl) rfl (fun _ => bd64 (by omega)))
          apply Trace.pu [] (.move (.plain rfl))
          exact .nil _
        · exact keepOK_of hk hn rfl
        have hx : a.getD i 0 = b.getD i 0 := by simpa using hc3
        exact ⟨i + 1, ⟨by omega, fun j h => by
          by_cases hj : j = i
          · rw [hj]; exact hx
          · exact hi.2 j (by omega)⟩, by omega, St.le_cons rfl (St.le_cons rfl (St.le_cons rfl (St.le_cons (slI (by omega)) (St.le_nil _))))⟩
    · apply WPA.exit
      apply WPA.seq
      apply WPA.region
      · apply Trace.pu [] (.assign (.plain rfl))
        exact .nil _
      · exact keepOK_of hk hn rfl
      apply WPA.ret
      refine ⟨.inr rfl, ⟨_, (.cons (.tmp rfl) .nil), ?_⟩, by simp [St.get]⟩
      have hn : a.length ≤ i := by
        have : ¬ ((i : Int) < a.length) := by simpa using hc2
        omega
      rw [decide_eq_true (eq_fn hl fun j hj => hi.2 j (by omega))]
      rfl

theorem memN {g : Gr} (hz : g.Sz) {at_ : List Int} (ha : at_.length ≤ 17592186044416) {p : Pl} {c : Int} (h : g.memory at_ = (p, c)) : FnSpec Try.prog 18 [g.av, .d (intsD at_)] [] (.tup ([p.d, .v (.int .i64 c)].map .d)) [] [] := by
  have := spec18 g hz at_ ha
  rw [h] at this
  exact this
theorem memory_del {g : Gr} (hz : g.Sz) (l : List Int) : (g.memory l).1.del.length ≤ 4611686018427387904 := by
  unfold Gr.memory
  split
  · simp
  · split
    · show (g.delTo l g.es.length).length ≤ _
      have := hz.m
      simp [Gr.delTo]; omega
    · simp
structure Pl.Sz (p : Pl) : Prop where
  a : p.at_.length ≤ 17592186044416
  d : p.del.length ≤ 17592186044416
/-- soundpost/certify.isPlan -/
theorem spec31 (g : Gr) (hz : g.Sz) (p : Pl) (hp : p.Sz) : FnSpec Try.prog 31 [g.av, .d p.d] [] (bv (g.isPlan p)) [] [] := by
  have hn1 := hz.n
  have hn2 := hz.m
  have hp1 := hp.a
  have hp2 := hp.d
  refine fnSpec_of (rs := [.tmp 4]) Try.func31 rfl rfl (Nat.le_of_ble_eq_true rfl) (by simp [St.get]) fun E hk hn => ?_
  apply WPA.seq
  apply WPA.region
  · first | apply Trace.boxD 2 [] (.plain rfl) rfl rfl | apply Trace.box 2 [] (.plain rfl) rfl rfl rfl
    first | apply Trace.boxD 3 [] (.plain rfl) rfl rfl | apply Trace.box 3 [] (.plain rfl) rfl rfl rfl
    apply Trace.pu [] (.assign (.plain rfl))
    exact .nil _
  · exact keepOK_of hk hn rfl
  apply WPA.seq
  apply WPA.region
  · first | apply Trace.pu [_] (.loadAllD ty25 (.plain rfl) rfl (by simp)) | apply Trace.pu [_] (.loadLocD ty25 (.plain rfl) rfl (fun _ => by simp)) | apply Trace.pu [_] (.loadLoc ty25 (.plain rfl) rfl (fun _ => Nat.le_of_ble_eq_true rfl)) | apply Trace.pu [] (.loadRp ty25 (.plain rfl) (fun _ => by decide)) | apply Trace.pu [] (.loadRp ty25 (.plain rfl) (fun _ => Nat.le_of_ble_eq_true rfl)) | apply Trace.pu [_] (.loadCol ty25 (.plain rfl) rfl rfl (fun _ => by decide) (fun _ => by omega)) | apply Trace.pu [_] (.loadArr ty25 (.plain rfl) rfl)
    apply Trace.pu [] (.fieldAddr fl28_0 (.plain rfl) rfl)
    first | apply Trace.pu [_] (.loadLoc1D ty22 (.plain rfl) rfl rfl) | apply Trace.pu [_] (.loadLoc1 ty22 (.plain rfl) rfl rfl) | apply Trace.pu [] (.loadRp1 ty22 (.plain rfl) rfl) | apply Trace.pu [_] (.loadCol1 ty22 (.plain rfl) rfl rfl rfl (fun _ => by omega))
    apply Trace.ct (callArgs0 (.cons (.plain rfl) (.cons (.plain rfl) .nil))) (memN hz (at_ := p.at_) hp.a (p := (g.memory p.at_).1) (c := (g.memory p.at_).2) rfl) en18
    apply Trace.pu [] (.move (.plain rfl))
    apply Trace.pu [] (.extract (.plain rfl) rfl)
    apply Trace.pu [] (.extract (.plain rfl) rfl)
    apply Trace.alloc 5 [] (.data _) zo28 (cellsAs_data _) rfl
    first | apply Trace.storeD ty28 (.plain rfl) (.plain rfl) rfl rfl (by simp) (by simp [AV.oneB, single, intsD, rowsD]) (by simp) (spliceL_all (by simp)) | apply Trace.storeD ty28 (.plain rfl) (.plain rfl) rfl rfl (by simp) (by simp [AV.oneB, single, intsD, rowsD]) (by simp) rfl | apply Trace.storeDA ty28 (.plain rfl) (.plain rfl) rfl rfl (by simp) (by simp [AV.oneB, single]) (by simp) rfl | apply Trace.storeLoc ty28 (.plain rfl) (.plain rfl) rfl rfl (by simp) (by simp [AV.oneB, single]) (by simp) rfl | apply Trace.storeRow ty28 (.plain rfl) (.plain rfl) rfl rfl rfl rfl (by decide) (by simp [AV.oneB, single]) rfl (by omega)
    apply Trace.pu [] (.assign (.plain rfl))
    exact .nil _
  · exact keepOK_of hk hn rfl
  apply WPA.seq
  apply WPA.region
  · apply Trace.pu [] (.move (.plain rfl))
    apply Trace.pu [] (.cmp (.plain rfl) (.plain rfl) rfl)
    apply Trace.pu [] (.move (.plain rfl))
    apply Trace.pg [] rfl (.fieldAddr fl28_1 (.plain rfl) rfl)
    first | apply Trace.pg [_] rfl (.loadLoc1D ty22 (.gd rfl (fun h => h)) rfl rfl) | apply Trace.pg [_] rfl (.loadLoc1 ty22 (.gd rfl (fun h => h)) rfl rfl) | apply Trace.pg [] rfl (.loadRp1 ty22 (.gd rfl (fun h => h)) rfl) | apply Trace.pg [_] rfl (.loadCol1 ty22 (.gd rfl (fun h => h)) rfl rfl rfl (fun _ => by omega))
    apply Trace.pg [] rfl (.fieldAddr fl28_1 (.plain rfl) rfl)
    first | apply Trace.pg [_] rfl (.loadLoc1D ty22 (.gd rfl (fun h => h)) rfl rfl) | apply Trace.pg [_] rfl (.loadLoc1 ty22 (.gd rfl (fun h => h)) rfl rfl) | apply Trace.pg [] rfl (.loadRp1 ty22 (.gd rfl (fun h => h)) rfl) | apply Trace.pg [_] rfl (.loadCol1 ty22 (.gd rfl (fun h => h)) rfl rfl rfl (fun _ => by omega))
    apply Trace.cg rfl (callArgs0 (.cons (.gd rfl (fun h => h)) (.cons (.gd rfl (fun h => h)) .nil))) (fun _ => spec48 p.del (g.memory p.at_).1.del (by omega) (memory_del hz _)) en48
    apply Trace.pu [] (.pick (.plain rfl) (.gd rfl (by simp)) (.plain rfl))
    apply Trace.pu [] (.move (.plain rfl))
    apply Trace.pg [] rfl (.fieldAddr fl28_2 (.plain rfl) rfl)
    first | apply Trace.pg [_] rfl (.loadLoc1D ty3 (.gd rfl (fun h => h)) rfl rfl) | apply Trace.pg [_] rfl (.loadLoc1 ty3 (.gd rfl (fun h => h)) rfl rfl) | apply Trace.pg [] rfl (.loadRp1 ty3 (.gd rfl (fun h => h)) rfl) | apply Trace.pg [_] rfl (.loadCol1 ty3 (.gd rfl (fun h => h)) rfl rfl rfl (fun _ => by omega))
    apply Trace.pg [] rfl (.fieldAddr fl28_2 (.plain rfl) rfl)
    first | apply Trace.pg [_] rfl (.loadLoc1D ty3 (.gd rfl (fun h => h)) rfl rfl) | apply Trace.pg [_] rfl (.loadLoc1 ty3 (.gd rfl (fun h => h)) rfl rfl) | apply Trace.pg [] rfl (.loadRp1 ty3 (.gd rfl (fun h => h)) rfl) | apply Trace.pg [_] rfl (.loadCol1 ty3 (.gd rfl (fun h => h)) rfl rfl rfl (fun _ => by omega))
    apply Trace.pg [] rfl (.cmp (.gd rfl (fun h => h)) (.gd rfl (fun h => h)) rfl)
    apply Trace.pu [] (.pick (.plain rfl) (.gd rfl (by simp)) (.plain rfl))
    apply Trace.pu [] (.assign (.plain rfl))
    exact .nil _
  · exact keepOK_of hk hn rfl
  apply WPA.ret
  refine ⟨.inr rfl, ⟨_, (.cons (.tmp rfl) .nil), ?_⟩, by simp [St.get]⟩
  have e : g.isPlan p = (bif (bif decide ((g.memory p.at_).2 = 0) then decide (p.del = (g.memory p.at_).1.del) else false) then decide (p.mem = (g.memory p.at_).1.mem) else false) := by rw [bif_and, bif_and]; rfl
  rw [e]; rfl

/-- soundpost/certify.Bound -/
theorem spec16 (g : Gr) (hz : g.Sz) (fl : List Int) (hfl : fl.length ≤ 4611686018427387904) : FnSpec Try.prog 16 [g.av, .d (intsD fl)] [] (.tup ([.v (.int .i64 (g.boundP fl).1), .v (.int .i64 (g.boundP fl).2)].map .d)) [] [] := by
  have hn1 := hz.n
  have hn2 := hz.m
  refine fnSpec_of (rs := [.tmp 4, .tmp 5]) Try.func16 rfl rfl (Nat.le_of_ble_eq_true rfl) (by simp [St.get]) fun E hk hn => ?_
  apply WPA.seq
  apply WPA.region
  · first | apply Trace.boxD 2 [] (.plain rfl) rfl rfl | apply Trace.box 2 [] (.plain rfl) rfl rfl rfl
    apply Trace.pu [] (.assign (.plain rfl))
    apply Trace.pu [] (.assign (.plain rfl))
    exact .nil _
  · exact keepOK_of hk hn rfl
  apply WPA.seq
  apply WPA.seq
  apply WPA.region
  · first | apply Trace.pu [_] (.loadAllD ty25 (.plain rfl) rfl (by simp)) | apply Trace.pu [_] (.loadLocD ty25 (.plain rfl) rfl (fun _ => by simp)) | apply Trace.pu [_] (.loadLoc ty25 (.plain rfl) rfl (fun _ => Nat.le_of_ble_eq_true rfl)) | apply Trace.pu [] (.loadRp ty25 (.plain rfl) (fun _ => by decide)) | apply Trace.pu [] (.loadRp ty25 (.plain rfl) (fun _ => Nat.le_of_ble_eq_true rfl)) | apply Trace.pu [_] (.loadCol ty25 (.plain rfl) rfl rfl (fun _ => by decide) (fun _ => by omega)) | apply Trace.pu [_] (.loadArr ty25 (.plain rfl) rfl)
    apply Trace.cu (callArgs0 (.cons (.plain rfl) .nil)) (spec26 g hz) en26
    apply Trace.pu [] (.assign (.plain rfl))
    exact .nil _
  · exact keepOK_of hk hn rfl
  apply WPA.seq
  apply WPA.region
  · apply Trace.pu [] (.move (.plain rfl))
    apply Trace.pu [] (.cmp (.plain rfl) (.plain rfl) rfl)
    exact .nil _
  · exact keepOK_of hk hn rfl
  refine WPA.cond rfl (fun hc1 => ?_) (fun hc1 => ?_)
  · have hC : g.check ≠ 0 := by simpa using hc1
    have hM : g.boundP fl = (0, g.check) := by unfold Gr.boundP; rw [if_pos hC]
    apply WPA.seq
    apply WPA.region
    · apply Trace.pu [] (.move (.plain rfl))
      apply Trace.pu [] (.assign (.plain rfl))
      apply Trace.pu [] (.assign (.plain rfl))
      exact .nil _
    · exact keepOK_of hk hn rfl
    apply WPA.ret
    refine ⟨.inr rfl, ⟨_, (.cons (.tmp rfl) (.cons (.tmp rfl) .nil)), ?_⟩, by simp [St.get]⟩
    rw [hM]; rfl
  · have hC : g.check = 0 := by simpa using hc1
    have hok := g.ok_of (check_formed hC)
    apply WPA.skip
    apply WPA.seq
    apply WPA.seq
    apply WPA.region
    · first | apply Trace.pu [_] (.loadAllD ty25 (.plain rfl) rfl (by simp)) | apply Trace.pu [_] (.loadLocD ty25 (.plain rfl) rfl (fun _ => by simp)) | apply Trace.pu [_] (.loadLoc ty25 (.plain rfl) rfl (fun _ => Nat.le_of_ble_eq_true rfl)) | apply Trace.pu [] (.loadRp ty25 (.plain rfl) (fun _ => by decide)) | apply Trace.pu [] (.loadRp ty25 (.plain rfl) (fun _ => Nat.le_of_ble_eq_true rfl)) | apply Trace.pu [_] (.loadCol ty25 (.plain rfl) rfl rfl (fun _ => by decide) (fun _ => by omega)) | apply Trace.pu [_] (.loadArr ty25 (.plain rfl) rfl)
      apply Trace.pu [] (.move (.plain rfl))
      apply Trace.cu (callArgs0 (.cons (.plain rfl) (.cons (.plain rfl) .nil))) (spec35 hok fl hfl) en35
      apply Trace.pu [] (.not (.plain rfl))
      exact .nil _
    · exact keepOK_of hk hn rfl
    refine WPA.cond rfl (fun hc2 => ?_) (fun hc2 => ?_)
    · have hB : ¬ g.flowB fl = true := by simpa using hc2
      have hM : g.boundP fl = (0, 240) := by unfold Gr.boundP; rw [if_neg (by rw [hC]; decide), if_neg hB]
      apply WPA.seq
      apply WPA.region
      · apply Trace.pu [] (.assign (.plain rfl))
        apply Trace.pu [] (.assign (.plain rfl))
        exact .nil _
      · exact keepOK_of hk hn rfl
      apply WPA.ret
      refine ⟨.inr rfl, ⟨_, (.cons (.tmp rfl) (.cons (.tmp rfl) .nil)), ?_⟩, by simp [St.get]⟩
      rw [hM]; rfl
    · have hB : g.flowB fl = true := by simpa using hc2
      obtain ⟨k1, k2, _⟩ := (flowB_iff hok).1 hB
      have hM : g.boundP fl = (g.bnd fl g.es.length, 0) := by unfold Gr.boundP; rw [if_neg (by rw [hC]; decide), if_pos hB]
      apply WPA.skip
      apply WPA.seq
      apply WPA.region
      · first | apply Trace.pu [_] (.loadAllD ty25 (.plain rfl) rfl (by simp)) | apply Trace.pu [_] (.loadLocD ty25 (.plain rfl) rfl (fun _ => by simp)) | apply Trace.pu [_] (.loadLoc ty25 (.plain rfl) rfl (fun _ => Nat.le_of_ble_eq_true rfl)) | apply Trace.pu [] (.loadRp ty25 (.plain rfl) (fun _ => by decide)) | apply Trace.pu [] (.loadRp ty25 (.plain rfl) (fun _ => Nat.le_of_ble_eq_true rfl)) | apply Trace.pu [_] (.loadCol ty25 (.plain rfl) rfl rfl (fun _ => by decide) (fun _ => by omega)) | apply Trace.pu [_] (.loadArr ty25 (.plain rfl) rfl)
        apply Trace.pu [] (.move (.plain rfl))
        apply Trace.cu (callArgs0 (.cons (.plain rfl) (.cons (.plain rfl) .nil))) (spec34 hok k1 k2) en34
        apply Trace.pu [] (.assign (.plain rfl))
        apply Trace.pu [] (.assign (.plain rfl))
        exact .nil _
      · exact keepOK_of hk hn rfl
      apply WPA.ret
      refine ⟨.inr rfl, ⟨_, (.cons (.tmp rfl) (.cons (.tmp rfl) .nil)), ?_⟩, by simp [St.get]⟩
      rw [hM]; rfl

/-- soundpost/certify.Check -/
theorem spec15 (g : Gr) (hz : g.Sz) (p : Pl) (hp : p.Sz) (fl : List Int) (hfl : fl.length ≤ 4611686018427387904) : FnSpec Try.prog 15 [g.av, .d p.d, .d (intsD fl)] [] (.tup ([.v (.bool (g.certP p fl).1), .v (.int .i64 (g.certP p fl).2)].map .d)) [] [] := by
  have hn1 := hz.n
  have hn2 := hz.m
  refine fnSpec_of (rs := [.tmp 6, .tmp 7]) Try.func15 rfl rfl (Nat.le_of_ble_eq_true rfl) (by simp [St.get]) fun E hk hn => ?_
  apply WPA.seq
  apply WPA.region
  · first | apply Trace.boxD 3 [] (.plain rfl) rfl rfl | apply Trace.box 3 [] (.plain rfl) rfl rfl rfl
    first | apply Trace.boxD 4 [] (.plain rfl) rfl rfl | apply Trace.box 4 [] (.plain rfl) rfl rfl rfl
    apply Trace.pu [] (.assign (.plain rfl))
    apply Trace.pu [] (.assign (.plain rfl))
    exact .nil _
  · exact keepOK_of hk hn rfl
  apply WPA.seq
  apply WPA.seq
  apply WPA.region
  · first | apply Trace.pu [_] (.loadAllD ty25 (.plain rfl) rfl (by simp)) | apply Trace.pu [_] (.loadLocD ty25 (.plain rfl) rfl (fun _ => by simp)) | apply Trace.pu [_] (.loadLoc ty25 (.plain rfl) rfl (fun _ => Nat.le_of_ble_eq_true rfl)) | apply Trace.pu [] (.loadRp ty25 (.plain rfl) (fun _ => by decide)) | apply Trace.pu [] (.loadRp ty25 (.plain rfl) (fun _ => Nat.le_of_ble_eq_true rfl)) | apply Trace.pu [_] (.loadCol ty25 (.plain rfl) rfl rfl (fun _ => by decide) (fun _ => by omega)) | apply Trace.pu [_] (.loadArr ty25 (.plain rfl) rfl)
    apply Trace.cu (callArgs0 (.cons (.plain rfl) .nil)) (spec26 g hz) en26
    apply Trace.pu [] (.assign (.plain rfl))
    exact .nil _
  · exact keepOK_of hk hn rfl
  apply WPA.seq
  apply WPA.region
  · apply Trace.pu [] (.move (.plain rfl))
    apply Trace.pu [] (.cmp (.plain rfl) (.plain rfl) rfl)
    exact .nil _
  · exact keepOK_of hk hn rfl
  refine WPA.cond rfl (fun hc1 => ?_) (fun hc1 => ?_)
  · have hC : g.check ≠ 0 := by simpa using hc1
    have hM : g.certP p fl = (false, g.check) := by unfold Gr.certP; rw [if_pos hC]
    apply WPA.seq
    apply WPA.region
    · apply Trace.pu [] (.move (.plain rfl))
      apply Trace.pu [] (.assign (.plain rfl))
      apply Trace.pu [] (.assign (.plain rfl))
      exact .nil _
    · exact keepOK_of hk hn rfl
    apply WPA.ret
    refine ⟨.inr rfl, ⟨_, (.cons (.tmp rfl) (.cons (.tmp rfl) .nil)), ?_⟩, by simp [St.get]⟩
    rw [hM]; rfl
  · have hC : g.check = 0 := by simpa using hc1
    have hok := g.ok_of (check_formed hC)
    apply WPA.skip
    apply WPA.seq
    apply WPA.seq
    apply WPA.region
    · first | apply Trace.pu [_] (.loadAllD ty25 (.plain rfl) rfl (by simp)) | apply Trace.pu [_] (.loadLocD ty25 (.plain rfl) rfl (fun _ => by simp)) | apply Trace.pu [_] (.loadLoc ty25 (.plain rfl) rfl (fun _ => Nat.le_of_ble_eq_true rfl)) | apply Trace.pu [] (.loadRp ty25 (.plain rfl) (fun _ => by decide)) | apply Trace.pu [] (.loadRp ty25 (.plain rfl) (fun _ => Nat.le_of_ble_eq_true rfl)) | apply Trace.pu [_] (.loadCol ty25 (.plain rfl) rfl rfl (fun _ => by decide) (fun _ => by omega)) | apply Trace.pu [_] (.loadArr ty25 (.plain rfl) rfl)
      first | apply Trace.pu [_] (.loadAllD ty28 (.plain rfl) rfl (by simp)) | apply Trace.pu [_] (.loadLocD ty28 (.plain rfl) rfl (fun _ => by simp)) | apply Trace.pu [_] (.loadLoc ty28 (.plain rfl) rfl (fun _ => Nat.le_of_ble_eq_true rfl)) | apply Trace.pu [] (.loadRp ty28 (.plain rfl) (fun _ => by decide)) | apply Trace.pu [] (.loadRp ty28 (.plain rfl) (fun _ => Nat.le_of_ble_eq_true rfl)) | apply Trace.pu [_] (.loadCol ty28 (.plain rfl) rfl rfl (fun _ => by decide) (fun _ => by omega)) | apply Trace.pu [_] (.loadArr ty28 (.plain rfl) rfl)
      apply Trace.cu (callArgs0 (.cons (.plain rfl) (.cons (.plain rfl) .nil))) (spec31 g hz p hp) en31
      apply Trace.pu [] (.not (.plain rfl))
      exact .nil _
    · exact keepOK_of hk hn rfl
    refine WPA.cond rfl (fun hc2 => ?_) (fun hc2 => ?_)
    · have hB : ¬ g.isPlan p = true := by simpa using hc2
      have hM : g.certP p fl = (false, 230) := by unfold Gr.certP; rw [if_neg (by rw [hC]; decide), if_neg hB]
      apply WPA.seq
      apply WPA.region
      · apply Trace.pu [] (.assign (.plain rfl))
        apply Trace.pu [] (.assign (.plain rfl))
        exact .nil _
      · exact keepOK_of hk hn rfl
      apply WPA.ret
      refine ⟨.inr rfl, ⟨_, (.cons (.tmp rfl) (.cons (.tmp rfl) .nil)), ?_⟩, by simp [St.get]⟩
      rw [hM]; rfl
    · have hP : g.isPlan p = true := by simpa using hc2
      apply WPA.skip
      apply WPA.seq
      apply WPA.seq
      apply WPA.region
      · first | apply Trace.pu [_] (.loadAllD ty25 (.plain rfl) rfl (by simp)) | apply Trace.pu [_] (.loadLocD ty25 (.plain rfl) rfl (fun _ => by simp)) | apply Trace.pu [_] (.loadLoc ty25 (.plain rfl) rfl (fun _ => Nat.le_of_ble_eq_true rfl)) | apply Trace.pu [] (.loadRp ty25 (.plain rfl) (fun _ => by decide)) | apply Trace.pu [] (.loadRp ty25 (.plain rfl) (fun _ => Nat.le_of_ble_eq_true rfl)) | apply Trace.pu [_] (.loadCol ty25 (.plain rfl) rfl rfl (fun _ => by decide) (fun _ => by omega)) | apply Trace.pu [_] (.loadArr ty25 (.plain rfl) rfl)
        apply Trace.pu [] (.move (.plain rfl))
        apply Trace.cu (callArgs0 (.cons (.plain rfl) (.cons (.plain rfl) .nil))) (spec35 hok fl hfl) en35
        apply Trace.pu [] (.not (.plain rfl))
        exact .nil _
      · exact keepOK_of hk hn rfl
      refine WPA.cond rfl (fun hc3 => ?_) (fun hc3 => ?_)
      · have hB : ¬ g.flowB fl = true := by simpa using hc3
        have hM : g.certP p fl = (false, 240) := by unfold Gr.certP; rw [if_neg (by rw [hC]; decide), if_pos hP, if_neg hB]
        apply WPA.seq
        apply WPA.region
        · apply Trace.pu [] (.assign (.plain rfl))
          apply Trace.pu [] (.assign (.plain rfl))
          exact .nil _
        · exact keepOK_of hk hn rfl
        apply WPA.ret
        refine ⟨.inr rfl, ⟨_, (.cons (.tmp rfl) (.cons (.tmp rfl) .nil)), ?_⟩, by simp [St.get]⟩
        rw [hM]; rfl
      · have hB : g.flowB fl = true := by simpa using hc3
        obtain ⟨k1, k2, _⟩ := (flowB_iff hok).1 hB
        have hM : g.certP p fl = (decide (g.bnd fl g.es.length = p.mem), 0) := by unfold Gr.certP; rw [if_neg (by rw [hC]; decide), if_pos hP, if_pos hB]
        apply WPA.skip
        apply WPA.seq
        apply WPA.draw mixed
        · first | apply Trace.pu [_] (.loadAllD ty25 (.plain rfl) rfl (by simp)) | apply Trace.pu [_] (.loadLocD ty25 (.plain rfl) rfl (fun _ => by simp)) | apply Trace.pu [_] (.loadLoc ty25 (.plain rfl) rfl (fun _ => Nat.le_of_ble_eq_true rfl)) | apply Trace.pu [] (.loadRp ty25 (.plain rfl) (fun _ => by decide)) | apply Trace.pu [] (.loadRp ty25 (.plain rfl) (fun _ => Nat.le_of_ble_eq_true rfl)) | apply Trace.pu [_] (.loadCol ty25 (.plain rfl) rfl rfl (fun _ => by decide) (fun _ => by omega)) | apply Trace.pu [_] (.loadArr ty25 (.plain rfl) rfl)
          apply Trace.pu [] (.move (.plain rfl))
          apply Trace.cu (callArgs0 (.cons (.plain rfl) (.cons (.plain rfl) .nil))) (spec34 hok k1 k2) en34
          apply Trace.pu [] (.fieldAddr fl28_2 (.plain rfl) rfl)
          first | apply Trace.pu [_] (.loadLoc1D ty3 (.plain rfl) rfl rfl) | apply Trace.pu [_] (.loadLoc1 ty3 (.plain rfl) rfl rfl) | apply Trace.pu [] (.loadRp1 ty3 (.plain rfl) rfl) | apply Trace.pu [_] (.loadCol1 ty3 (.plain rfl) rfl rfl rfl (fun _ => by omega))
          apply Trace.pu [] (.cmp (.plain rfl) (.plain rfl) rfl)
          apply Trace.pu [] (.assign (.plain rfl))
          apply Trace.pu [] (.assign (.plain rfl))
          exact .nil _
        · rfl
        · exact keepOK_of hk hn rfl
        apply WPA.ret
        refine ⟨.inr rfl, ⟨_, (.cons (.tmp rfl) (.cons (.tmp rfl) .nil)), ?_⟩, by simp [St.get]⟩
        rw [hM]; rfl

end Go.Proofs.Ytcidkahhfdcddaa

