/- The arcs; the iterator over them. -/
import Derived.Test.YtkieenlidehdgaaPlan5F
import Derived.Test.YtkieenlidehdgaaSplit
namespace Go.Proofs.Ytkieenlidehdgaa
open Go
set_option linter.unusedVariables false
set_option linter.unusedSimpArgs false
set_option maxRecDepth 10000
set_option maxHeartbeats 1000000

abbrev Arc.ds (a : Arc) : List D := [.v (.int .i64 a.f), .v (.int .i64 a.t), .v (.int .i64 a.by_), .v (.int .i64 a.e), .v (.bool a.b)]
abbrev arcCols (l : List Arc) : List Col := [.ints .i64 (l.map (·.f)), .ints .i64 (l.map (·.t)), .ints .i64 (l.map (·.by_)), .ints .i64 (l.map (·.e)), .bools (l.map (·.b))]
abbrev arcsD (l : List Arc) : D := rowsD 5 l.length (arcCols l)
theorem Pure.never {P : Program} {S : St} {o : Oper} {x : AV} (h : ∀ d, o.op ≠ .defer d) : Pure P S [] o false x := ⟨h, fun _ _ _ _ _ _ h => by cases h⟩
/-- What the loop over the arcs holds. -/
abbrev CsL (n : Nat) (s : LP) : St := [(bk 4, .blk (.cells [.own 16 n])), (bk 16, .blk (.app 1 n [.ints .i64 s.at_])), (bk 7, .blk (.cells [.own 18 n])), (bk 18, .blk (.app 5 n (arcCols s.lst))), (bk 9, .blk (.data [.v (.int .i64 s.node)]))]
abbrev tsL : List (Nat × AV) := [(4, .loc 4 0), (7, .loc 7 0), (9, .loc 9 0)]
abbrev lhL (ac bo : Code) : LH := ⟨.ready, none, #[24], ac, bo, 97⟩
/-- soundpost/plan.arcs -/
theorem spec37 (g : Gr) (fl : List Int) (m : Nat) : FnSpec Try.prog 37 [g.av, .own 0 m] [(bk 0, .blk (.app 1 m [.ints .i64 fl]))] (.fn 48 [.loc 60 0, .loc 61 0]) [(bk 60, .blk (.data g.ds)), (bk 61, .blk (.cells [.own 0 m])), (bk 0, .blk (.app 1 m [.ints .i64 fl]))] [0] := by
  refine fnSpec_of (rs := [.tmp 4]) Try.func37 rfl rfl (Nat.le_of_ble_eq_true rfl) (odd_of rfl) fun E hk hn => ?_
  apply WPA.seq
  apply WPA.region
  · apply Trace.boxD 60 [] (.plain rfl) rfl rfl
    apply Trace.box 61 [] (.plain rfl) rfl rfl rfl
    apply Trace.pu [] (.assign (.plain rfl))
    exact .nil _
  · exact keepOK_of hk hn rfl
  apply WPA.seq
  apply WPA.region
  · apply Trace.pu [] (.funcL (.cons (.plain rfl) (.cons (.plain rfl) .nil)))
    apply Trace.pu [] (.assign (.plain rfl))
    exact .nil _
  · exact keepOK_of hk hn rfl
  apply WPA.ret
  refine ⟨.inr rfl, ⟨_, (.cons (.tmp rfl) .nil), ?_⟩, blks_of (.cons rfl (.cons rfl (.cons rfl .nil)))⟩
  rfl

/-- soundpost/plan.arcs$1 -/
theorem itL {g : Gr} (h : g.OK) {fl : List Int} (hfl : fl.length = g.es.length) {s0 : LP} {ac bo : Code} (hY : ∀ k, k < (g.net fl).as.length → ∀ a, (g.net fl).as.getD k default = a → YSpec Try.prog 70 [.d (.agg a.ds)] ((bk 70, .blk (.lp (lhL ac bo) tsL)) :: CsL g.lat.length ((g.net fl).passTo s0 k)) (bv true) ((bk 70, .blk (.lp (lhL ac bo) tsL)) :: CsL g.lat.length ((g.net fl).passTo s0 (k + 1))) [70, 4, 16, 7, 18, 9]) : FnSpec Try.prog 48 [.yld 70, .loc 60 0, .loc 61 0] ((bk 70, .blk (.lp (lhL ac bo) tsL)) :: (bk 60, .blk (.data g.ds)) :: (bk 61, .blk (.cells [.own 0 g.es.length])) :: (bk 0, .blk (.app 1 g.es.length [.ints .i64 fl])) :: CsL g.lat.length ((g.net fl).passTo s0 0)) (.tup []) ((bk 70, .blk (.lp (lhL ac bo) tsL)) :: (bk 60, .blk (.data g.ds)) :: (bk 61, .blk (.cells [.own 0 g.es.length])) :: (bk 0, .blk (.app 1 g.es.length [.ints .i64 fl])) :: CsL g.lat.length ((g.net fl).pass s0)) [70, 60, 61, 0, 4, 16, 7, 18, 9] := by
  have hn1 := h.n
  have hn2 := h.m
  refine fnSpec_of (rs := []) Try.func48 rfl rfl (Nat.le_of_ble_eq_true rfl) (odd_of rfl) fun E hk hn => ?_
  apply WPA.seq
  apply WPA.region
  · apply Trace.pu [] (.fieldAddr fl25_1 (.plain rfl) rfl)
    first | apply Trace.pu [_] (.loadLoc1D ty23 (.plain rfl) rfl rfl) | apply Trace.pu [_] (.loadLoc1 ty23 (.plain rfl) rfl rfl) | apply Trace.pu [] (.loadRp1 ty23 (.plain rfl) rfl) | apply Trace.pu [_] (.loadCol1 ty23 (.plain rfl) rfl rfl rfl (fun _ => by omega))
    apply Trace.pu [] (.len rfl Try.underlying23 (.plain rfl) rfl)
    apply Trace.pu [] (.move (.plain rfl))
    exact .nil _
  · exact keepOK_of hk hn rfl
  apply WPA.block
  refine WPA.loop (σ := Nat) (fun i => [(sl 0, .av (.yld 70)), (sl 1, .av (.loc 60 0)), (sl 2, .av (.loc 61 0)), (sl 8, .av (.d (edgesD g.es))), (sl 9, .av (iv .i64 (g.es.length))), (sl 10, .av (iv .i64 (i))), (bk 60, .blk (.data g.ds)), (bk 61, .blk (.cells [.own 0 g.es.length])), (bk 0, .blk (.app 1 g.es.length [.ints .i64 fl])), (bk 70, .blk (.lp (lhL ac bo) tsL)), (bk 4, .blk (.cells [.own 16 g.lat.length])), (bk 16, .blk (.app 1 g.lat.length [.ints .i64 ((g.net fl).passTo s0 (g.pos fl i)).at_])), (bk 7, .blk (.cells [.own 18 g.lat.length])), (bk 18, .blk (.app 5 g.lat.length (arcCols ((g.net fl).passTo s0 (g.pos fl i)).lst))), (bk 9, .blk (.data [.v (.int .i64 ((g.net fl).passTo s0 (g.pos fl i)).node)]))]) (fun i => i ≤ g.es.length) (fun i => g.es.length - i) 0
    (St.le_cons rfl (St.le_cons rfl (St.le_cons rfl (St.le_cons rfl (St.le_cons rfl (St.le_cons rfl (St.le_cons rfl (St.le_cons rfl (St.le_cons rfl (St.le_cons rfl (St.le_cons rfl (St.le_cons rfl (St.le_cons rfl (St.le_cons rfl (St.le_cons rfl (St.le_nil _)))))))))))))))) (Nat.zero_le _) fun i hi => ?_
  apply WPA.seq
  apply WPA.region
  · apply Trace.pu [] (.cmp (.plain rfl) (.plain rfl) rfl)
    exact .nil _
  · exact keepOK_of hk hn rfl
  apply WPA.seq
  refine WPA.cond rfl (fun hc1 => ?_) (fun hc1 => ?_)
  · have hlt : i < g.es.length := by simpa using hc1
    obtain ⟨e, he⟩ : ∃ e, g.es.getD i default = e := ⟨_, rfl⟩
    have hem : e ∈ g.es := by rw [← he]; exact (Gr.edge h hlt).1
    obtain ⟨h1, h2, h3, h4, _, _, h5, h6, h7, h8⟩ := Gr.edge_mem h hem
    obtain ⟨ha1, ha2, ha3, ha4⟩ := arcs_at (fl := fl) hlt
    have hfw : (g.net fl).as.getD (g.pos fl i) default = ⟨e.f, e.t, g.lat.getD e.f.toNat 0 - e.d, i, false⟩ := by rw [ha2, ← he]; rfl
    have hlf := hfl
    apply WPA.skip
    apply WPA.seq
    apply WPA.block
    apply WPA.seq
    apply WPA.region
    · apply Trace.pu [] (.move (.plain rfl))
      apply Trace.pu [] ((Pure.indexRows el23 (.plain rfl) (.plain rfl) (fun _ => ⟨by omega, by omega⟩)).to (y := .rp e.ds) (by show AV.rp (g.es.getD i default).ds = _; rw [he]))
      first | apply Trace.pu [_] (.loadAllD ty44 (.plain rfl) rfl (by simp)) | apply Trace.pu [_] (.loadLocD ty44 (.plain rfl) rfl (fun _ => by simp)) | apply Trace.pu [_] (.loadLoc ty44 (.plain rfl) rfl (fun _ => Nat.le_of_ble_eq_true rfl)) | apply Trace.pu [] (.loadRp ty44 (.plain rfl) (fun _ => by decide)) | apply Trace.pu [] (.loadRp ty44 (.plain rfl) (fun _ => Nat.le_of_ble_eq_true rfl)) | apply Trace.pu [_] (.loadCol ty44 (.plain rfl) rfl rfl (fun _ => by decide) (fun _ => by omega)) | apply Trace.pu [_] (.loadArr ty44 (.plain rfl) rfl)
      apply Trace.alloc 5 [] (.data _) zo44 (cellsAs_data _) rfl
      apply Trace.pu [] (.assign (.plain rfl))
      first | apply Trace.storeD ty44 (.plain rfl) (.plain rfl) rfl rfl (by simp) (by simp [AV.oneB, single]) (by simp) (spliceL_all (by simp)) | apply Trace.storeD ty44 (.plain rfl) (.plain rfl) rfl rfl (by simp) (by simp [AV.oneB, single]) (by simp) rfl | apply Trace.storeDA ty44 (.plain rfl) (.plain rfl) rfl rfl (by simp) (by simp [AV.oneB, single]) (by simp) rfl | apply Trace.storeLoc ty44 (.plain rfl) (.plain rfl) rfl rfl (by simp) (by simp [AV.oneB, single]) (by simp) rfl | apply Trace.storeRow ty44 (.plain rfl) (.plain rfl) rfl rfl rfl rfl (by decide) (by simp [AV.oneB, single]) rfl (by omega)
      exact .nil _
    · exact keepOK_of hk hn rfl
    apply WPA.seq
    apply WPA.draw mixed
    · apply Trace.pu [] (.fieldAddr fl25_0 (.plain rfl) rfl)
      first | apply Trace.pu [_] (.loadLoc1D ty22 (.plain rfl) rfl rfl) | apply Trace.pu [_] (.loadLoc1 ty22 (.plain rfl) rfl rfl) | apply Trace.pu [] (.loadRp1 ty22 (.plain rfl) rfl) | apply Trace.pu [_] (.loadCol1 ty22 (.plain rfl) rfl rfl rfl (fun _ => by omega))
      apply Trace.pu [] (.fieldAddr fl44_0 (.plain rfl) rfl)
      first | apply Trace.pu [_] (.loadLoc1D ty3 (.plain rfl) rfl rfl) | apply Trace.pu [_] (.loadLoc1 ty3 (.plain rfl) rfl rfl) | apply Trace.pu [] (.loadRp1 ty3 (.plain rfl) rfl) | apply Trace.pu [_] (.loadCol1 ty3 (.plain rfl) rfl rfl rfl (fun _ => by omega))
      first | apply Trace.pu [] (.indexRows el22 (.plain rfl) (.plain rfl) (fun _ => ⟨by omega, by omega⟩)) | apply Trace.pu [] (.indexOwn el22 (.plain rfl) (.plain rfl) (fun _ => ⟨by omega, by omega⟩)) | apply Trace.pu [] (.indexSl el22 (.plain rfl) (.plain rfl) (fun _ => ⟨by omega, by omega⟩))
      first | apply Trace.pu [_] (.loadLoc1D ty3 (.plain rfl) rfl rfl) | apply Trace.pu [_] (.loadLoc1 ty3 (.plain rfl) rfl rfl) | apply Trace.pu [] (.loadRp1 ty3 (.plain rfl) rfl) | apply Trace.pu [_] (.loadCol1 ty3 (.plain rfl) rfl rfl rfl (fun _ => by omega))
      apply Trace.pu [] (.fieldAddr fl44_3 (.plain rfl) rfl)
      first | apply Trace.pu [_] (.loadLoc1D ty3 (.plain rfl) rfl rfl) | apply Trace.pu [_] (.loadLoc1 ty3 (.plain rfl) rfl rfl) | apply Trace.pu [] (.loadRp1 ty3 (.plain rfl) rfl) | apply Trace.pu [_] (.loadCol1 ty3 (.plain rfl) rfl rfl rfl (fun _ => by omega))
      apply Trace.pu [] (.arith (.plain rfl) (.plain rfl) rfl (fun _ => bd64 (by omega)))
      apply Trace.pu [] (.assign (.plain rfl))
      exact .nil _
    · rfl
    · exact keepOK_of hk hn rfl
    apply WPA.seq
    refine WPA.weaken (T := [(sl 0, .av (.yld 70)), (sl 1, .av (.loc 60 0)), (sl 2, .av (.loc 61 0)), (sl 4, .av (iv .i64 (i))), (sl 5, .av (.loc 5 0)), (sl 6, .av (iv .i64 (g.lat.getD e.f.toNat 0 - e.d))), (sl 8, .av (.d (edgesD g.es))), (sl 9, .av (iv .i64 (g.es.length))), (sl 10, .av (iv .i64 (i))), (bk 5, .blk (.data e.ds)), (bk 60, .blk (.data g.ds)), (bk 61, .blk (.cells [.own 0 g.es.length])), (bk 0, .blk (.app 1 g.es.length [.ints .i64 fl])), (bk 70, .blk (.lp (lhL ac bo) tsL)), (bk 4, .blk (.cells [.own 16 g.lat.length])), (bk 16, .blk (.app 1 g.lat.length [.ints .i64 ((g.net fl).passTo s0 (g.pos fl i)).at_])), (bk 7, .blk (.cells [.own 18 g.lat.length])), (bk 18, .blk (.app 5 g.lat.length (arcCols ((g.net fl).passTo s0 (g.pos fl i)).lst))), (bk 9, .blk (.data [.v (.int .i64 ((g.net fl).passTo s0 (g.pos fl i)).node)]))]) ?_ (St.le_cons rfl (St.le_cons rfl (St.le_cons rfl (St.le_cons rfl (St.le_cons rfl (St.le_cons rfl (St.le_cons rfl (St.le_cons rfl (St.le_cons rfl (St.le_cons rfl (St.le_cons rfl (St.le_cons rfl (St.le_cons rfl (St.le_cons rfl (St.le_cons rfl (St.le_cons rfl (St.le_cons rfl (St.le_cons rfl (St.le_cons rfl (St.le_nil _))))))))))))))))))))
    rcases Decidable.em (0 < fl.getD i 0) with hfp | hfp
    · obtain ⟨hb1, hb2, hb3x⟩ := ha3 hfp
      have hb3 : g.pos fl (i + 1) = g.pos fl i + 1 + 1 := hb3x
      have hbw : (g.net fl).as.getD (g.pos fl i + 1) default = ⟨e.t, e.f, -(g.lat.getD e.f.toNat 0 - e.d), i, true⟩ := by rw [hb2, ← he]; rfl
      apply WPA.region2 11 (T := [(sl 34, .av (bv false)), (sl 0, .av (.yld 70)), (sl 1, .av (.loc 60 0)), (sl 2, .av (.loc 61 0)), (sl 4, .av (iv .i64 (i))), (sl 5, .av (.loc 5 0)), (sl 6, .av (iv .i64 (g.lat.getD e.f.toNat 0 - e.d))), (sl 8, .av (.d (edgesD g.es))), (sl 9, .av (iv .i64 (g.es.length))), (sl 10, .av (iv .i64 (i))), (bk 5, .blk (.data e.ds)), (bk 60, .blk (.data g.ds)), (bk 61, .blk (.cells [.own 0 g.es.length])), (bk 0, .blk (.app 1 g.es.length [.ints .i64 fl])), (bk 70, .blk (.lp (lhL ac bo) tsL)), (bk 4, .blk (.cells [.own 16 g.lat.length])), (bk 16, .blk (.app 1 g.lat.length [.ints .i64 ((g.net fl).passTo s0 (g.pos fl i + 1)).at_])), (bk 7, .blk (.cells [.own 18 g.lat.length])), (bk 18, .blk (.app 5 g.lat.length (arcCols ((g.net fl).passTo s0 (g.pos fl i + 1)).lst))), (bk 9, .blk (.data [.v (.int .i64 ((g.net fl).passTo s0 (g.pos fl i + 1)).node)]))])
      · apply Trace.pu [] (.move (.plain rfl))
        apply Trace.pu [] (.fieldAddr fl44_0 (.plain rfl) rfl)
        first | apply Trace.pu [_] (.loadLoc1D ty3 (.plain rfl) rfl rfl) | apply Trace.pu [_] (.loadLoc1 ty3 (.plain rfl) rfl rfl) | apply Trace.pu [] (.loadRp1 ty3 (.plain rfl) rfl) | apply Trace.pu [_] (.loadCol1 ty3 (.plain rfl) rfl rfl rfl (fun _ => by omega))
        apply Trace.pu [] (.fieldAddr fl44_1 (.plain rfl) rfl)
        first | apply Trace.pu [_] (.loadLoc1D ty3 (.plain rfl) rfl rfl) | apply Trace.pu [_] (.loadLoc1 ty3 (.plain rfl) rfl rfl) | apply Trace.pu [] (.loadRp1 ty3 (.plain rfl) rfl) | apply Trace.pu [_] (.loadCol1 ty3 (.plain rfl) rfl rfl rfl (fun _ => by omega))
        apply Trace.pu [] (.move (.plain rfl))
        apply Trace.pu [] (.move (.plain rfl))
        apply Trace.pu [] (.build zo61 pl61 (.cons (.plain rfl) rfl rfl (Nat.le_of_ble_eq_true rfl) (.cons (.plain rfl) rfl rfl (Nat.le_of_ble_eq_true rfl) (.cons (.plain rfl) rfl rfl (Nat.le_of_ble_eq_true rfl) (.cons (.plain rfl) rfl rfl (Nat.le_of_ble_eq_true rfl) (.cons (.plain rfl) rfl rfl (Nat.le_of_ble_eq_true rfl) (.nil _ _)))))) rfl)
        apply Trace.cyG (gs := []) [] [bk 70, bk 4, bk 16, bk 7, bk 18, bk 9] (yieldArgs (.plain rfl) (.cons (.plain rfl) .nil)) (hY _ ha1 _ hfw) rfl (.cons rfl (.cons rfl (.cons rfl (.cons rfl (.cons rfl (.cons rfl (.nil))))))) rfl rfl
        apply Trace.pu [] (.not (.plain rfl))
        apply Trace.pu [] (.move (.plain rfl))
        exact .nil _
      · exact keepOK_of hk hn rfl
      · exact (St.le_cons rfl (St.le_cons rfl (St.le_cons rfl (St.le_cons rfl (St.le_cons rfl (St.le_cons rfl (St.le_cons rfl (St.le_cons rfl (St.le_cons rfl (St.le_cons rfl (St.le_cons rfl (St.le_cons rfl (St.le_cons rfl (St.le_cons rfl (St.le_cons rfl (St.le_cons rfl (St.le_cons rfl (St.le_cons rfl (St.le_cons rfl (St.le_cons rfl (St.le_nil _)))))))))))))))))))))
      · first | apply Trace.pg [_] rfl (.loadLoc1D ty22 (.plain rfl) rfl rfl) | apply Trace.pg [_] rfl (.loadLoc1 ty22 (.plain rfl) rfl rfl) | apply Trace.pg [] rfl (.loadRp1 ty22 (.plain rfl) rfl) | apply Trace.pg [_] rfl (.loadCol1 ty22 (.plain rfl) rfl rfl rfl (fun _ => by omega))
        apply Trace.pg [] rfl (.move (.plain rfl))
        first | apply Trace.pg [] rfl (.indexRows el22 (.gd rfl (fun h => h)) (.gd rfl (fun h => h)) (fun _ => ⟨by omega, by omega⟩)) | apply Trace.pg [] rfl (.indexOwn el22 (.gd rfl (fun h => h)) (.gd rfl (fun h => h)) (fun _ => ⟨by omega, by omega⟩)) | apply Trace.pg [] rfl (.indexSl el22 (.gd rfl (fun h => h)) (.gd rfl (fun h => h)) (fun _ => ⟨by omega, by omega⟩))
        first | apply Trace.pg [_] rfl (.loadLoc1D ty3 (.gd rfl (fun h => h)) rfl rfl) | apply Trace.pg [_] rfl (.loadLoc1 ty3 (.gd rfl (fun h => h)) rfl rfl) | apply Trace.pg [] rfl (.loadRp1 ty3 (.gd rfl (fun h => h)) rfl) | apply Trace.pg [_] rfl (.loadCol1 ty3 (.gd rfl (fun h => h)) rfl rfl rfl (fun _ => by omega))
        apply Trace.pg [] rfl ((Pure.cmp (.gd rfl (fun h => h)) (.plain rfl) rfl).to (y := bv true) (congrArg bv (decide_eq_true hfp)))
        apply Trace.pg [] rfl (.move (.gd rfl (fun h => h)))
        apply Trace.pg [] rfl (.move (.plain rfl))
        apply Trace.pg [] rfl (.fieldAddr fl44_1 (.plain rfl) rfl)
        first | apply Trace.pg [_] rfl (.loadLoc1D ty3 (.gd rfl (fun h => h)) rfl rfl) | apply Trace.pg [_] rfl (.loadLoc1 ty3 (.gd rfl (fun h => h)) rfl rfl) | apply Trace.pg [] rfl (.loadRp1 ty3 (.gd rfl (fun h => h)) rfl) | apply Trace.pg [_] rfl (.loadCol1 ty3 (.gd rfl (fun h => h)) rfl rfl rfl (fun _ => by omega))
        apply Trace.pg [] rfl (.fieldAddr fl44_0 (.plain rfl) rfl)
        first | apply Trace.pg [_] rfl (.loadLoc1D ty3 (.gd rfl (fun h => h)) rfl rfl) | apply Trace.pg [_] rfl (.loadLoc1 ty3 (.gd rfl (fun h => h)) rfl rfl) | apply Trace.pg [] rfl (.loadRp1 ty3 (.gd rfl (fun h => h)) rfl) | apply Trace.pg [_] rfl (.loadCol1 ty3 (.gd rfl (fun h => h)) rfl rfl rfl (fun _ => by omega))
        apply Trace.pg [] rfl (.move (.plain rfl))
        apply Trace.pg [] rfl (.neg (.gd rfl (fun h => h)) (fun _ => bd64 (by omega)))
        apply Trace.pg [] rfl (.move (.plain rfl))
        apply Trace.pg [] rfl (.buildG zo61 pl61 (.cons (.gd rfl (fun h => h)) rfl rfl (Nat.le_of_ble_eq_true rfl) (.cons (.gd rfl (fun h => h)) rfl rfl (Nat.le_of_ble_eq_true rfl) (.cons (.gd rfl (fun h => h)) rfl rfl (Nat.le_of_ble_eq_true rfl) (.cons (.gd rfl (fun h => h)) rfl rfl (Nat.le_of_ble_eq_true rfl) (.cons (.plain rfl) rfl rfl (Nat.le_of_ble_eq_true rfl) (.nil _ _)))))))
        apply Trace.cyG (gs := _) [] [bk 70, bk 4, bk 16, bk 7, bk 18, bk 9] (yieldArgs (.gd rfl (fun h => h)) (.cons (.gd rfl (fun h => h)) .nil)) (hY _ hb1 _ hbw) rfl (.cons rfl (.cons rfl (.cons rfl (.cons rfl (.cons rfl (.cons rfl (.nil))))))) rfl rfl
        apply Trace.pg [] rfl (.not (.gd rfl (fun h => h)))
        apply Trace.pg [] rfl (.pick (.gd rfl (fun h => h)) (.gd rfl (by simp)) (.plain rfl))
        apply Trace.pu [] (.pick (.plain rfl) (.plain rfl) (.gd rfl (by simp)))
        exact .nil _
      · exact keepOK_of hk hn rfl
      · exact Nat.le_of_ble_eq_true rfl
      refine WPA.cond rfl (fun hc2 => ?_) (fun hc2 => ?_)
      · cases hc2
      · apply WPA.skip
        apply WPA.region
        · apply Trace.pu [] (.arith (.plain rfl) (.plain rfl) rfl (fun _ => bd64 (by omega)))
          apply Trace.pu [] (.move (.plain rfl))
          exact .nil _
        · exact keepOK_of hk hn rfl
        refine ⟨i + 1, by omega, by omega, ?_⟩
        rw [hb3]
        exact St.le_cons rfl (St.le_cons rfl (St.le_cons rfl (St.le_cons rfl (St.le_cons rfl (St.le_cons (slI (by omega)) (St.le_cons rfl (St.le_cons rfl (St.le_cons rfl (St.le_cons rfl (St.le_cons rfl (St.le_cons rfl (St.le_cons rfl (St.le_cons rfl (St.le_cons rfl (St.le_nil _)))))))))))))))
    · have hb3 := ha4 hfp
      apply WPA.region2 11 (T := [(sl 34, .av (bv false)), (sl 0, .av (.yld 70)), (sl 1, .av (.loc 60 0)), (sl 2, .av (.loc 61 0)), (sl 4, .av (iv .i64 (i))), (sl 5, .av (.loc 5 0)), (sl 6, .av (iv .i64 (g.lat.getD e.f.toNat 0 - e.d))), (sl 8, .av (.d (edgesD g.es))), (sl 9, .av (iv .i64 (g.es.length))), (sl 10, .av (iv .i64 (i))), (bk 5, .blk (.data e.ds)), (bk 60, .blk (.data g.ds)), (bk 61, .blk (.cells [.own 0 g.es.length])), (bk 0, .blk (.app 1 g.es.length [.ints .i64 fl])), (bk 70, .blk (.lp (lhL ac bo) tsL)), (bk 4, .blk (.cells [.own 16 g.lat.length])), (bk 16, .blk (.app 1 g.lat.length [.ints .i64 ((g.net fl).passTo s0 (g.pos fl i + 1)).at_])), (bk 7, .blk (.cells [.own 18 g.lat.length])), (bk 18, .blk (.app 5 g.lat.length (arcCols ((g.net fl).passTo s0 (g.pos fl i + 1)).lst))), (bk 9, .blk (.data [.v (.int .i64 ((g.net fl).passTo s0 (g.pos fl i + 1)).node)]))])
      · apply Trace.pu [] (.move (.plain rfl))
        apply Trace.pu [] (.fieldAddr fl44_0 (.plain rfl) rfl)
        first | apply Trace.pu [_] (.loadLoc1D ty3 (.plain rfl) rfl rfl) | apply Trace.pu [_] (.loadLoc1 ty3 (.plain rfl) rfl rfl) | apply Trace.pu [] (.loadRp1 ty3 (.plain rfl) rfl) | apply Trace.pu [_] (.loadCol1 ty3 (.plain rfl) rfl rfl rfl (fun _ => by omega))
        apply Trace.pu [] (.fieldAddr fl44_1 (.plain rfl) rfl)
        first | apply Trace.pu [_] (.loadLoc1D ty3 (.plain rfl) rfl rfl) | apply Trace.pu [_] (.loadLoc1 ty3 (.plain rfl) rfl rfl) | apply Trace.pu [] (.loadRp1 ty3 (.plain rfl) rfl) | apply Trace.pu [_] (.loadCol1 ty3 (.plain rfl) rfl rfl rfl (fun _ => by omega))
        apply Trace.pu [] (.move (.plain rfl))
        apply Trace.pu [] (.move (.plain rfl))
        apply Trace.pu [] (.build zo61 pl61 (.cons (.plain rfl) rfl rfl (Nat.le_of_ble_eq_true rfl) (.cons (.plain rfl) rfl rfl (Nat.le_of_ble_eq_true rfl) (.cons (.plain rfl) rfl rfl (Nat.le_of_ble_eq_true rfl) (.cons (.plain rfl) rfl rfl (Nat.le_of_ble_eq_true rfl) (.cons (.plain rfl) rfl rfl (Nat.le_of_ble_eq_true rfl) (.nil _ _)))))) rfl)
        apply Trace.cyG (gs := []) [] [bk 70, bk 4, bk 16, bk 7, bk 18, bk 9] (yieldArgs (.plain rfl) (.cons (.plain rfl) .nil)) (hY _ ha1 _ hfw) rfl (.cons rfl (.cons rfl (.cons rfl (.cons rfl (.cons rfl (.cons rfl (.nil))))))) rfl rfl
        apply Trace.pu [] (.not (.plain rfl))
        apply Trace.pu [] (.move (.plain rfl))
        exact .nil _
      · exact keepOK_of hk hn rfl
      · exact (St.le_cons rfl (St.le_cons rfl (St.le_cons rfl (St.le_cons rfl (St.le_cons rfl (St.le_cons rfl (St.le_cons rfl (St.le_cons rfl (St.le_cons rfl (St.le_cons rfl (St.le_cons rfl (St.le_cons rfl (St.le_cons rfl (St.le_cons rfl (St.le_cons rfl (St.le_cons rfl (St.le_cons rfl (St.le_cons rfl (St.le_cons rfl (St.le_cons rfl (St.le_nil _)))))))))))))))))))))
      · first | apply Trace.pg [_] rfl (.loadLoc1D ty22 (.plain rfl) rfl rfl) | apply Trace.pg [_] rfl (.loadLoc1 ty22 (.plain rfl) rfl rfl) | apply Trace.pg [] rfl (.loadRp1 ty22 (.plain rfl) rfl) | apply Trace.pg [_] rfl (.loadCol1 ty22 (.plain rfl) rfl rfl rfl (fun _ => by omega))
        apply Trace.pg [] rfl (.move (.plain rfl))
        first | apply Trace.pg [] rfl (.indexRows el22 (.gd rfl (fun h => h)) (.gd rfl (fun h => h)) (fun _ => ⟨by omega, by omega⟩)) | apply Trace.pg [] rfl (.indexOwn el22 (.gd rfl (fun h => h)) (.gd rfl (fun h => h)) (fun _ => ⟨by omega, by omega⟩)) | apply Trace.pg [] rfl (.indexSl el22 (.gd rfl (fun h => h)) (.gd rfl (fun h => h)) (fun _ => ⟨by omega, by omega⟩))
        first | apply Trace.pg [_] rfl (.loadLoc1D ty3 (.gd rfl (fun h => h)) rfl rfl) | apply Trace.pg [_] rfl (.loadLoc1 ty3 (.gd rfl (fun h => h)) rfl rfl) | apply Trace.pg [] rfl (.loadRp1 ty3 (.gd rfl (fun h => h)) rfl) | apply Trace.pg [_] rfl (.loadCol1 ty3 (.gd rfl (fun h => h)) rfl rfl rfl (fun _ => by omega))
        apply Trace.pg [] rfl ((Pure.cmp (.gd rfl (fun h => h)) (.plain rfl) rfl).to (y := bv false) (congrArg bv (decide_eq_false hfp)))
        apply Trace.pg [] rfl (.move (.gd rfl (fun h => h)))
        apply Trace.pg [] rfl (Pure.never (x := bv true) (by intro d h; cases h))
        apply Trace.pg [] rfl (Pure.never (x := bv true) (by intro d h; cases h))
        apply Trace.pg [] rfl (Pure.never (x := bv true) (by intro d h; cases h))
        apply Trace.pg [] rfl (Pure.never (x := bv true) (by intro d h; cases h))
        apply Trace.pg [] rfl (Pure.never (x := bv true) (by intro d h; cases h))
        apply Trace.pg [] rfl (Pure.never (x := bv true) (by intro d h; cases h))
        apply Trace.pg [] rfl (Pure.never (x := bv true) (by intro d h; cases h))
        apply Trace.pg [] rfl (Pure.never (x := bv true) (by intro d h; cases h))
        apply Trace.pg [] rfl (Pure.never (x := bv true) (by intro d h; cases h))
        apply Trace.pg [] rfl (Pure.never (x := bv true) (by intro d h; cases h))
        apply Trace.pg [] rfl (Pure.never (x := bv true) (by intro d h; cases h))
        apply Trace.pg [] rfl (.pick (.gd rfl (fun h => h)) (.gd rfl (by simp)) (.plain rfl))
        apply Trace.pu [] (.pick (.plain rfl) (.plain rfl) (.gd rfl (by simp)))
        exact .nil _
      · exact keepOK_of hk hn rfl
      · exact Nat.le_of_ble_eq_true rfl
      refine WPA.cond rfl (fun hc3 => ?_) (fun hc3 => ?_)
      · cases hc3
      · apply WPA.skip
        apply WPA.region
        · apply Trace.pu [] (.arith (.plain rfl) (.plain rfl) rfl (fun _ => bd64 (by omega)))
          apply Trace.pu [] (.move (.plain rfl))
          exact .nil _
        · exact keepOK_of hk hn rfl
        refine ⟨i + 1, by omega, by omega, ?_⟩
        rw [hb3]
        exact St.le_cons rfl (St.le_cons rfl (St.le_cons rfl (St.le_cons rfl (St.le_cons rfl (St.le_cons (slI (by omega)) (St.le_cons rfl (St.le_cons rfl (St.le_cons rfl (St.le_cons rfl (St.le_cons rfl (St.le_cons rfl (St.le_cons rfl (St.le_cons rfl (St.le_cons rfl (St.le_nil _)))))))))))))))
  · have hie : i = g.es.length := by
      have : ¬ ((i : Int) < g.es.length) := by simpa using hc1
      omega
    subst hie
    apply WPA.exit
    refine ⟨.inl rfl, ⟨_, (.nil), ?_⟩, blks_of (.cons rfl (.cons rfl (.cons rfl (.cons rfl (.cons rfl (.cons rfl (.cons rfl (.cons rfl (.cons rfl (.nil))))))))))⟩
    rfl

end Go.Proofs.Ytkieenlidehdgaa

