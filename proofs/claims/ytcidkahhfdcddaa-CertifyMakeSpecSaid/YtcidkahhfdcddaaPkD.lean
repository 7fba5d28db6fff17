import Derived.Test.YtcidkahhfdcddaaPkC
/- certify: the arcs of a flow; saving. -/
namespace Go.Proofs.Ytcidkahhfdcddaa
open Go
set_option linter.unusedVariables false
set_option linter.unusedSimpArgs false
set_option maxRecDepth 10000
set_option maxHeartbeats 1000000

abbrev arcColsR (l : List Arc) : List Col := [.ints .i64 (l.map (·.e)), .ints .i64 (l.map (·.s)), .ints .i64 (l.map (·.f)), .ints .i64 (l.map (·.t)), .ints .i64 (l.map fun a => -a.by_)]
abbrev arcsRD (l : List Arc) : D := rowsD 5 l.length (arcColsR l)
def negL (l : List Int) : List Int := l.map fun x => -x
theorem negL_len (l : List Int) : (negL l).length = l.length := by simp [negL]
theorem negL_at (l : List Int) (v : Nat) : (negL l).getD v 0 = -(l.getD v 0) := by
  by_cases h : v < l.length
  · rw [getD_lt _ _ (by rw [negL_len]; exact h), getD_lt _ _ h]; simp [negL]
  · rw [getD_ge _ _ (by rw [negL_len]; omega), getD_ge _ _ (by omega)]; rfl
theorem negL_set (l : List Int) (v : Nat) (x : Int) : negL (l.set v x) = (negL l).set v (-x) := by simp [negL, List.map_set]
theorem mapS {l : List Arc} {i : Nat} (h : i < l.length) : (l.map (·.s)).getD i 0 = (l.getD i default).s := getD_map' _ _ default _ h
theorem mapC {l : List Arc} {i : Nat} (h : i < l.length) : (l.map fun a => -a.by_).getD i 0 = -(l.getD i default).by_ := getD_map' _ _ default _ h
/-- What the loop over the arcs holds. -/
abbrev CsS (n : Nat) (A : Int) (s : LP) : St := [(bk 8, .blk (.cells [.own 20 n])), (bk 20, .blk (.app 1 n [.ints .i64 (negL s.at_)])), (bk 9, .blk (.cells [.own 22 n])), (bk 22, .blk (.app 5 n (arcColsR s.lst))), (bk 12, .blk (.data [.v (.bool (decide (0 ≤ s.node)))])), (bk 10, .blk (.data [.v (.int .i64 (if s.node < 0 then A else s.node))]))]
abbrev tsS : List (Nat × AV) := [(8, .loc 8 0), (9, .loc 9 0), (10, .loc 10 0), (12, .loc 12 0)]
abbrev lhS (ac bo : Code) : LH := ⟨.ready, none, #[29], ac, bo, 95⟩
theorem datB {x y : Bool} (h : x = y) : some (Cont.blk (.data [.v (.bool x)])) = some (Cont.blk (.data [.v (.bool y)])) := by rw [h]
def savC (g : Gr) (p : Nat → Int) (fl : List Int) : List Arc := if (g.netD p fl).run.node < 0 then [] else (g.netD p fl).cyc
theorem delTo_len (g : Gr) (pl : List Int) (i : Nat) : (g.delTo pl i).length = i := by simp [Gr.delTo]
theorem delTo_at (g : Gr) (pl : List Int) {i k : Nat} (hk : k < i) : (g.delTo pl i).getD k 0 = g.sl (fn pl) k := by
  rw [getD_lt _ _ (by rw [delTo_len]; exact hk)]
  simp [Gr.delTo]
/-- soundpost/certify.residual -/
theorem spec49 (g : Gr) (pl : List Int) (M : Int) (fl : List Int) (m : Nat) : FnSpec Try.prog 49 [g.av, .d (.agg [intsD pl, intsD (g.delTo pl g.es.length), .v (.int .i64 M)]), .own 0 m] [(bk 0, .blk (.app 1 m [.ints .i64 fl]))] (.fn 61 [.loc 60 0, .loc 62 0, .loc 61 0]) [(bk 60, .blk (.data g.ds)), (bk 62, .blk (.data [intsD pl, intsD (g.delTo pl g.es.length), .v (.int .i64 M)])), (bk 61, .blk (.cells [.own 0 m])), (bk 0, .blk (.app 1 m [.ints .i64 fl]))] [0] := by
  refine fnSpec_of (rs := [.tmp 6]) Try.func49 rfl rfl (Nat.le_of_ble_eq_true rfl) (odd_of rfl) fun E hk hn => ?_
  apply WPA.seq
  apply WPA.region
  · apply Trace.boxD 60 [] (.plain rfl) rfl rfl
    apply Trace.boxD 62 [] (.plain rfl) rfl rfl
    apply Trace.box 61 [] (.plain rfl) rfl rfl rfl
    apply Trace.pu [] (.assign (.plain rfl))
    exact .nil _
  · exact keepOK_of hk hn rfl
  apply WPA.seq
  apply WPA.region
  · apply Trace.pu [] (.funcL (.cons (.plain rfl) (.cons (.plain rfl) (.cons (.plain rfl) .nil))))
    apply Trace.pu [] (.assign (.plain rfl))
    exact .nil _
  · exact keepOK_of hk hn rfl
  apply WPA.ret
  refine ⟨.inr rfl, ⟨_, (.cons (.tmp rfl) .nil), ?_⟩, blks_of (.cons rfl (.cons rfl (.cons rfl (.cons rfl .nil))))⟩
  rfl

/-- soundpost/certify.residual$1 -/
theorem itS {g : Gr} (h : g.OK) {pl : List Int} (hat : AtOK g pl) {M : Int} {fl : List Int} (hfl : fl.length = g.es.length) {s0 : LP} {A0 : Int} {ac bo : Code} (hY : ∀ k, k < (g.netD (fn pl) fl).as.length → ∀ a, (g.netD (fn pl) fl).as.getD k default = a → ∀ cst : Int, cst = -a.by_ → YSpec Try.prog 70 [.d (.agg [.v (.int .i64 a.e), .v (.int .i64 a.s), .v (.int .i64 a.f), .v (.int .i64 a.t), .v (.int .i64 cst)])] ((bk 70, .blk (.lp (lhS ac bo) tsS)) :: CsS g.lat.length A0 ((g.netD (fn pl) fl).passTo s0 k)) (bv true) ((bk 70, .blk (.lp (lhS ac bo) tsS)) :: CsS g.lat.length A0 ((g.netD (fn pl) fl).passTo s0 (k + 1))) [70, 8, 20, 9, 22, 12, 10]) : FnSpec Try.prog 61 [.yld 70, .loc 60 0, .loc 62 0, .loc 61 0] ((bk 70, .blk (.lp (lhS ac bo) tsS)) :: (bk 60, .blk (.data g.ds)) :: (bk 62, .blk (.data [intsD pl, intsD (g.delTo pl g.es.length), .v (.int .i64 M)])) :: (bk 61, .blk (.cells [.own 0 g.es.length])) :: (bk 0, .blk (.app 1 g.es.length [.ints .i64 fl])) :: CsS g.lat.length A0 ((g.netD (fn pl) fl).passTo s0 0)) (.tup []) ((bk 70, .blk (.lp (lhS ac bo) tsS)) :: (bk 60, .blk (.data g.ds)) :: (bk 62, .blk (.data [intsD pl, intsD (g.delTo pl g.es.length), .v (.int .i64 M)])) :: (bk 61, .blk (.cells [.own 0 g.es.length])) :: (bk 0, .blk (.app 1 g.es.length [.ints .i64 fl])) :: CsS g.lat.length A0 ((g.netD (fn pl) fl).pass s0)) [70, 60, 62, 61, 0, 8, 20, 9, 22, 12, 10] := by
  have hn1 := h.n
  have hn2 := h.m
  refine fnSpec_of (rs := []) Try.func61 rfl rfl (Nat.le_of_ble_eq_true rfl) (odd_of rfl) fun E hk hn => ?_
  apply WPA.seq
  apply WPA.region
  · apply Trace.pu [] (.fieldAddr fl25_1 (.plain rfl) rfl)
    first | apply Trace.pu [_] (.loadLoc1D ty23 (.plain rfl) rfl rfl) | apply Trace.pu [_] (.loadLoc1 ty23 (.plain rfl) rfl rfl) | apply Trace.pu [] (.loadRp1 ty23 (.plain rfl) rfl) | apply Trace.pu [_] (.loadCol1 ty23 (.plain rfl) rfl rfl rfl (fun _ => by omega))
    apply Trace.pu [] (.len rfl Try.underlying23 (.plain rfl) rfl)
    apply Trace.pu [] (.move (.plain rfl))
    exact .nil _
  · exact keepOK_of hk hn rfl
  apply WPA.block
  refine WPA.loop (σ := Nat) (fun i => [(sl 0, .av (.yld 70)), (sl 1, .av (.loc 60 0)), (sl 2, .av (.loc 62 0)), (sl 3, .av (.loc 61 0)), (sl 8, .av (.d (edgesD g.es))), (sl 9, .av (iv .i64 (g.es.length))), (sl 10, .av (iv .i64 (i))), (bk 60, .blk (.data g.ds)), (bk 62, .blk (.data [intsD pl, intsD (g.delTo pl g.es.length), .v (.int .i64 M)])), (bk 61, .blk (.cells [.own 0 g.es.length])), (bk 0, .blk (.app 1 g.es.length [.ints .i64 fl])), (bk 70, .blk (.lp (lhS ac bo) tsS)), (bk 8, .blk (.cells [.own 20 g.lat.length])), (bk 20, .blk (.app 1 g.lat.length [.ints .i64 (negL ((g.netD (fn pl) fl).passTo s0 (g.posC (fun i => -g.sl (fn pl) i) fl i)).at_)])), (bk 9, .blk (.cells [.own 22 g.lat.length])), (bk 22, .blk (.app 5 g.lat.length (arcColsR ((g.netD (fn pl) fl).passTo s0 (g.posC (fun i => -g.sl (fn pl) i) fl i)).lst))), (bk 12, .blk (.data [.v (.bool (decide (0 ≤ ((g.netD (fn pl) fl).passTo s0 (g.posC (fun i => -g.sl (fn pl) i) fl i)).node)))])), (bk 10, .blk (.data [.v (.int .i64 (if ((g.netD (fn pl) fl).passTo s0 (g.posC (fun i => -g.sl (fn pl) i) fl i)).node < 0 then A0 else ((g.netD (fn pl) fl).passTo s0 (g.posC (fun i => -g.sl (fn pl) i) fl i)).node))]))]) (fun i => i ≤ g.es.length) (fun i => g.es.length - i) 0
    (St.le_cons rfl (St.le_cons rfl (St.le_cons rfl (St.le_cons rfl (St.le_cons rfl (St.le_cons rfl (St.le_cons rfl (St.le_cons rfl (St.le_cons rfl (St.le_cons rfl (St.le_cons rfl (St.le_cons rfl (St.le_cons rfl (St.le_cons rfl (St.le_cons rfl (St.le_cons rfl (St.le_cons rfl (St.le_cons rfl (St.le_nil _))))))))))))))))))) (Nat.zero_le _) fun i hi => ?_
  apply WPA.seq
  apply WPA.region
  · apply Trace.pu [] (.cmp (.plain rfl) (.plain rfl) rfl)
    exact .nil _
  · exact keepOK_of hk hn rfl
  apply WPA.seq
  refine WPA.cond rfl (fun hc1 => ?_) (fun hc1 => ?_)
  · have hlt : i < g.es.length := by simpa using hc1
    obtain ⟨e, he⟩ : ∃ e, g.es.getD i default = e := ⟨_, rfl⟩
    have hem : e ∈ g.es := by rw [← he]; exact (Gr.edge h hlt).1
    obtain ⟨h1, h2, h3, h4, _, _, h5, h6, h7, h8⟩ := Gr.edge_mem h hem
    obtain ⟨ha1, ha2, ha3, ha4⟩ := arcs_at (g := g) (c := fun i => -g.sl (fn pl) i) (B := CB) (fl := fl) hlt
    have hfw : (g.netD (fn pl) fl).as.getD (g.posC (fun i => -g.sl (fn pl) i) fl i) default = ⟨e.f, e.t, -g.sl (fn pl) i, i, false, 1⟩ := by rw [ha2, ← he]; rfl
    have hdl : (g.delTo pl g.es.length).getD i 0 = g.sl (fn pl) i := delTo_at g pl hlt
    have hdll := delTo_len g pl g.es.length
    have hsb := sl_bd h hat hlt
    have hlf := hfl
    apply WPA.skip
    apply WPA.seq
    apply WPA.block
    apply WPA.seq
    apply WPA.region
    · apply Trace.pu [] (.move (.plain rfl))
      apply Trace.pu [] ((Pure.indexRows el23 (.plain rfl) (.plain rfl) (fun _ => ⟨by omega, by omega⟩)).to (y := .rp e.ds) (by show AV.rp (g.es.getD i default).ds = _; rw [he]))
      first | apply Trace.pu [_] (.loadAllD ty34 (.plain rfl) rfl (by simp)) | apply Trace.pu [_] (.loadLocD ty34 (.plain rfl) rfl (fun _ => by simp)) | apply Trace.pu [_] (.loadLoc ty34 (.plain rfl) rfl (fun _ => Nat.le_of_ble_eq_true rfl)) | apply Trace.pu [] (.loadRp ty34 (.plain rfl) (fun _ => by decide)) | apply Trace.pu [] (.loadRp ty34 (.plain rfl) (fun _ => Nat.le_of_ble_eq_true rfl)) | apply Trace.pu [_] (.loadCol ty34 (.plain rfl) rfl rfl (fun _ => by decide) (fun _ => by omega)) | apply Trace.pu [_] (.loadArr ty34 (.plain rfl) rfl)
      apply Trace.alloc 6 [] (.data _) zo34 (cellsAs_data _) rfl
      apply Trace.pu [] (.assign (.plain rfl))
      first | apply Trace.storeD ty34 (.plain rfl) (.plain rfl) rfl rfl (by simp) (by simp [AV.oneB, single]) (by simp) (spliceL_all (by simp)) | apply Trace.storeD ty34 (.plain rfl) (.plain rfl) rfl rfl (by simp) (by simp [AV.oneB, single]) (by simp) rfl | apply Trace.storeDA ty34 (.plain rfl) (.plain rfl) rfl rfl (by simp) (by simp [AV.oneB, single]) (by simp) rfl | apply Trace.storeLoc ty34 (.plain rfl) (.plain rfl) rfl rfl (by simp) (by simp [AV.oneB, single]) (by simp) rfl | apply Trace.storeRow ty34 (.plain rfl) (.plain rfl) rfl rfl rfl rfl (by decide) (by simp [AV.oneB, single]) rfl (by omega)
      exact .nil _
    · exact keepOK_of hk hn rfl
    apply WPA.seq
    apply WPA.seq
    refine WPA.weaken (T := [(sl 0, .av (.yld 70)), (sl 1, .av (.loc 60 0)), (sl 2, .av (.loc 62 0)), (sl 3, .av (.loc 61 0)), (sl 5, .av (iv .i64 (i))), (sl 6, .av (.loc 6 0)), (sl 8, .av (.d (edgesD g.es))), (sl 9, .av (iv .i64 (g.es.length))), (sl 10, .av (iv .i64 (i))), (bk 6, .blk (.data e.ds)), (bk 60, .blk (.data g.ds)), (bk 62, .blk (.data [intsD pl, intsD (g.delTo pl g.es.length), .v (.int .i64 M)])), (bk 61, .blk (.cells [.own 0 g.es.length])), (bk 0, .blk (.app 1 g.es.length [.ints .i64 fl])), (bk 70, .blk (.lp (lhS ac bo) tsS)), (bk 8, .blk (.cells [.own 20 g.lat.length])), (bk 20, .blk (.app 1 g.lat.length [.ints .i64 (negL ((g.netD (fn pl) fl).passTo s0 (g.posC (fun i => -g.sl (fn pl) i) fl i)).at_)])), (bk 9, .blk (.cells [.own 22 g.lat.length])), (bk 22, .blk (.app 5 g.lat.length (arcColsR ((g.netD (fn pl) fl).passTo s0 (g.posC (fun i => -g.sl (fn pl) i) fl i)).lst))), (bk 12, .blk (.data [.v (.bool (decide (0 ≤ ((g.netD (fn pl) fl).passTo s0 (g.posC (fun i => -g.sl (fn pl) i) fl i)).node)))])), (bk 10, .blk (.data [.v (.int .i64 (if ((g.netD (fn pl) fl).passTo s0 (g.posC (fun i => -g.sl (fn pl) i) fl i)).node < 0 then A0 else ((g.netD (fn pl) fl).passTo s0 (g.posC (fun i => -g.sl (fn pl) i) fl i)).node))]))]) ?_ (St.le_cons rfl (St.le_cons rfl (St.le_cons rfl (St.le_cons rfl (St.le_cons rfl (St.le_cons rfl (St.le_cons rfl (St.le_cons rfl (St.le_cons rfl (St.le_cons rfl (St.le_cons rfl (St.le_cons rfl (St.le_cons rfl (St.le_cons rfl (St.le_cons rfl (St.le_cons rfl (St.le_cons rfl (St.le_cons rfl (St.le_cons rfl (St.le_cons rfl (St.le_cons rfl (St.le_nil _))))))))))))))))))))))
    apply WPA.draw mixed
    · apply Trace.pu [] (.move (.plain rfl))
      apply Trace.pu [] (.move (.plain rfl))
      apply Trace.pu [] (.fieldAddr fl34_0 (.plain rfl) rfl)
      first | apply Trace.pu [_] (.loadLoc1D ty3 (.plain rfl) rfl rfl) | apply Trace.pu [_] (.loadLoc1 ty3 (.plain rfl) rfl rfl) | apply Trace.pu [] (.loadRp1 ty3 (.plain rfl) rfl) | apply Trace.pu [_] (.loadCol1 ty3 (.plain rfl) rfl rfl rfl (fun _ => by omega))
      apply Trace.pu [] (.fieldAddr fl34_1 (.plain rfl) rfl)
      first | apply Trace.pu [_] (.loadLoc1D ty3 (.plain rfl) rfl rfl) | apply Trace.pu [_] (.loadLoc1 ty3 (.plain rfl) rfl rfl) | apply Trace.pu [] (.loadRp1 ty3 (.plain rfl) rfl) | apply Trace.pu [_] (.loadCol1 ty3 (.plain rfl) rfl rfl rfl (fun _ => by omega))
      apply Trace.pu [] (.fieldAddr fl28_1 (.plain rfl) rfl)
      first | apply Trace.pu [_] (.loadLoc1D ty22 (.plain rfl) rfl rfl) | apply Trace.pu [_] (.loadLoc1 ty22 (.plain rfl) rfl rfl) | apply Trace.pu [] (.loadRp1 ty22 (.plain rfl) rfl) | apply Trace.pu [_] (.loadCol1 ty22 (.plain rfl) rfl rfl rfl (fun _ => by omega))
      apply Trace.pu [] (.move (.plain rfl))
      first | apply Trace.pu [] (.indexRows el22 (.plain rfl) (.plain rfl) (fun _ => ⟨by omega, by omega⟩)) | apply Trace.pu [] (.indexOwn el22 (.plain rfl) (.plain rfl) (fun _ => ⟨by omega, by omega⟩)) | apply Trace.pu [] (.indexSl el22 (.plain rfl) (.plain rfl) (fun _ => ⟨by omega, by omega⟩))
      apply Trace.pu [] ((Pure.loadRp1 ty3 (.plain rfl) rfl).to (y := iv .i64 (g.sl (fn pl) i)) (congrArg (iv .i64) hdl))
      apply Trace.pu [] (.build zo60 pl60 (.cons (.plain rfl) rfl rfl (Nat.le_of_ble_eq_true rfl) (.cons (.plain rfl) rfl rfl (Nat.le_of_ble_eq_true rfl) (.cons (.plain rfl) rfl rfl (Nat.le_of_ble_eq_true rfl) (.cons (.plain rfl) rfl rfl (Nat.le_of_ble_eq_true rfl) (.cons (.plain rfl) rfl rfl (Nat.le_of_ble_eq_true rfl) (.nil _ _)))))) rfl)
      apply Trace.cyG (gs := []) [] [bk 70, bk 8, bk 20, bk 9, bk 22, bk 12, bk 10] (yieldArgs (.plain rfl) (.cons (.plain rfl) .nil)) (hY _ ha1 _ hfw (g.sl (fn pl) i) (by show _ = -(-g.sl (fn pl) i); omega)) rfl (.cons rfl (.cons rfl (.cons rfl (.cons rfl (.cons rfl (.cons rfl (.cons rfl (.nil)))))))) rfl rfl
      apply Trace.pu [] (.not (.plain rfl))
      exact .nil _
    · rfl
    · exact keepOK_of hk hn rfl
    refine WPA.cond rfl (fun hc2 => ?_) (fun hc2 => ?_)
    · cases hc2
    · apply WPA.skip
      apply WPA.seq
      refine WPA.weaken (T := [(sl 0, .av (.yld 70)), (sl 1, .av (.loc 60 0)), (sl 2, .av (.loc 62 0)), (sl 3, .av (.loc 61 0)), (sl 5, .av (iv .i64 (i))), (sl 6, .av (.loc 6 0)), (sl 8, .av (.d (edgesD g.es))), (sl 9, .av (iv .i64 (g.es.length))), (sl 10, .av (iv .i64 (i))), (bk 6, .blk (.data e.ds)), (bk 60, .blk (.data g.ds)), (bk 62, .blk (.data [intsD pl, intsD (g.delTo pl g.es.length), .v (.int .i64 M)])), (bk 61, .blk (.cells [.own 0 g.es.length])), (bk 0, .blk (.app 1 g.es.length [.ints .i64 fl])), (bk 70, .blk (.lp (lhS ac bo) tsS)), (bk 8, .blk (.cells [.own 20 g.lat.length])), (bk 20, .blk (.app 1 g.lat.length [.ints .i64 (negL ((g.netD (fn pl) fl).passTo s0 (g.posC (fun i => -g.sl (fn pl) i) fl i + 1)).at_)])), (bk 9, .blk (.cells [.own 22 g.lat.length])), (bk 22, .blk (.app 5 g.lat.length (arcColsR ((g.netD (fn pl) fl).passTo s0 (g.posC (fun i => -g.sl (fn pl) i) fl i + 1)).lst))), (bk 12, .blk (.data [.v (.bool (decide (0 ≤ ((g.netD (fn pl) fl).passTo s0 (g.posC (fun i => -g.sl (fn pl) i) fl i + 1)).node)))])), (bk 10, .blk (.data [.v (.int .i64 (if ((g.netD (fn pl) fl).passTo s0 (g.posC (fun i => -g.sl (fn pl) i) fl i + 1)).node < 0 then A0 else ((g.netD (fn pl) fl).passTo s0 (g.posC (fun i => -g.sl (fn pl) i) fl i + 1)).node))]))]) ?_ (St.le_cons rfl (St.le_cons rfl (St.le_cons rfl (St.le_cons rfl (St.le_cons rfl (St.le_cons rfl (St.le_cons rfl (St.le_cons rfl (St.le_cons rfl (St.le_cons rfl (St.le_cons rfl (St.le_cons rfl (St.le_cons rfl (St.le_cons rfl (St.le_cons rfl (St.le_cons rfl (St.le_cons rfl (St.le_cons rfl (St.le_cons rfl (St.le_cons rfl (St.le_cons rfl (St.le_nil _))))))))))))))))))))))
      rcases Decidable.em (0 < fl.getD i 0) with hfp | hfp
      · obtain ⟨hb1, hb2, hb3x⟩ := ha3 hfp
        have hb3 : g.posC (fun i => -g.sl (fn pl) i) fl (i + 1) = g.posC (fun i => -g.sl (fn pl) i) fl i + 1 + 1 := hb3x
        have hbw : (g.netD (fn pl) fl).as.getD (g.posC (fun i => -g.sl (fn pl) i) fl i + 1) default = ⟨e.t, e.f, -(-g.sl (fn pl) i), i, true, -1⟩ := by rw [hb2, ← he]; rfl
        apply WPA.draw mixed
        · first | apply Trace.pu [_] (.loadLoc1D ty22 (.plain rfl) rfl rfl) | apply Trace.pu [_] (.loadLoc1 ty22 (.plain rfl) rfl rfl) | apply Trace.pu [] (.loadRp1 ty22 (.plain rfl) rfl) | apply Trace.pu [_] (.loadCol1 ty22 (.plain rfl) rfl rfl rfl (fun _ => by omega))
          apply Trace.pu [] (.move (.plain rfl))
          first | apply Trace.pu [] (.indexRows el22 (.plain rfl) (.plain rfl) (fun _ => ⟨by omega, by omega⟩)) | apply Trace.pu [] (.indexOwn el22 (.plain rfl) (.plain rfl) (fun _ => ⟨by omega, by omega⟩)) | apply Trace.pu [] (.indexSl el22 (.plain rfl) (.plain rfl) (fun _ => ⟨by omega, by omega⟩))
          first | apply Trace.pu [_] (.loadLoc1D ty3 (.plain rfl) rfl rfl) | apply Trace.pu [_] (.loadLoc1 ty3 (.plain rfl) rfl rfl) | apply Trace.pu [] (.loadRp1 ty3 (.plain rfl) rfl) | apply Trace.pu [_] (.loadCol1 ty3 (.plain rfl) rfl rfl rfl (fun _ => by omega))
          apply Trace.pu [] ((Pure.cmp (.plain rfl) (.plain rfl) rfl).to (y := bv true) (congrArg bv (decide_eq_true hfp)))
          apply Trace.pu [] (.move (.plain rfl))
          apply Trace.pg [] rfl (.move (.plain rfl))
          apply Trace.pg [] rfl (.move (.plain rfl))
          apply Trace.pg [] rfl (.fieldAddr fl34_1 (.plain rfl) rfl)
          first | apply Trace.pg [_] rfl (.loadLoc1D ty3 (.gd rfl (fun h => h)) rfl rfl) | apply Trace.pg [_] rfl (.loadLoc1 ty3 (.gd rfl (fun h => h)) rfl rfl) | apply Trace.pg [] rfl (.loadRp1 ty3 (.gd rfl (fun h => h)) rfl) | apply Trace.pg [_] rfl (.loadCol1 ty3 (.gd rfl (fun h => h)) rfl rfl rfl (fun _ => by omega))
          apply Trace.pg [] rfl (.fieldAddr fl34_0 (.plain rfl) rfl)
          first | apply Trace.pg [_] rfl (.loadLoc1D ty3 (.gd rfl (fun h => h)) rfl rfl) | apply Trace.pg [_] rfl (.loadLoc1 ty3 (.gd rfl (fun h => h)) rfl rfl) | apply Trace.pg [] rfl (.loadRp1 ty3 (.gd rfl (fun h => h)) rfl) | apply Trace.pg [_] rfl (.loadCol1 ty3 (.gd rfl (fun h => h)) rfl rfl rfl (fun _ => by omega))
          apply Trace.pg [] rfl (.fieldAddr fl28_1 (.plain rfl) rfl)
          first | apply Trace.pg [_] rfl (.loadLoc1D ty22 (.gd rfl (fun h => h)) rfl rfl) | apply Trace.pg [_] rfl (.loadLoc1 ty22 (.gd rfl (fun h => h)) rfl rfl) | apply Trace.pg [] rfl (.loadRp1 ty22 (.gd rfl (fun h => h)) rfl) | apply Trace.pg [_] rfl (.loadCol1 ty22 (.gd rfl (fun h => h)) rfl rfl rfl (fun _ => by omega))
          apply Trace.pg [] rfl (.move (.plain rfl))
          first | apply Trace.pg [] rfl (.indexRows el22 (.gd rfl (fun h => h)) (.gd rfl (fun h => h)) (fun _ => ⟨by omega, by omega⟩)) | apply Trace.pg [] rfl (.indexOwn el22 (.gd rfl (fun h => h)) (.gd rfl (fun h => h)) (fun _ => ⟨by omega, by omega⟩)) | apply Trace.pg [] rfl (.indexSl el22 (.gd rfl (fun h => h)) (.gd rfl (fun h => h)) (fun _ => ⟨by omega, by omega⟩))
          apply Trace.pg [] rfl ((Pure.loadRp1 ty3 (.gd rfl (fun h => h)) rfl).to (y := iv .i64 (g.sl (fn pl) i)) (congrArg (iv .i64) hdl))
          apply Trace.pg [] rfl (.neg (.gd rfl (fun h => h)) (fun _ => bd64 (by omega)))
          apply Trace.pg [] rfl (.buildG zo60 pl60 (.cons (.gd rfl (fun h => h)) rfl rfl (Nat.le_of_ble_eq_true rfl) (.cons (.plain rfl) rfl rfl (Nat.le_of_ble_eq_true rfl) (.cons (.gd rfl (fun h => h)) rfl rfl (Nat.le_of_ble_eq_true rfl) (.cons (.gd rfl (fun h => h)) rfl rfl (Nat.le_of_ble_eq_true rfl) (.cons (.gd rfl (fun h => h)) rfl rfl (Nat.le_of_ble_eq_true rfl) (.nil _ _)))))))
          apply Trace.cyG (gs := _) [] [bk 70, bk 8, bk 20, bk 9, bk 22, bk 12, bk 10] (yieldArgs (.gd rfl (fun h => h)) (.cons (.gd rfl (fun h => h)) .nil)) (hY _ hb1 _ hbw (-g.sl (fn pl) i) (by show _ = -(-(-g.sl (fn pl) i)); omega)) rfl (.cons rfl (.cons rfl (.cons rfl (.cons rfl (.cons rfl (.cons rfl (.cons rfl (.nil)))))))) rfl rfl
          apply Trace.pg [] rfl (.not (.gd rfl (fun h => h)))
          apply Trace.pu [] (.pick (.plain rfl) (.gd rfl (by simp)) (.plain rfl))
          exact .nil _
        · rfl
        · exact keepOK_of hk hn rfl
        refine WPA.cond rfl (fun hc3 => ?_) (fun hc3 => ?_)
        · cases hc3
        · apply WPA.skip
          apply WPA.region
          · apply Trace.pu [] (.arith (.plain rfl) (.plain rfl) rfl (fun _ => bd64 (by omega)))
            apply Trace.pu [] (.move (.plain rfl))
            exact .nil _
          · exact keepOK_of hk hn rfl
          refine ⟨i + 1, by omega, by omega, ?_⟩
          rw [hb3]
          exact St.le_cons rfl (St.le_cons rfl (St.le_cons rfl (St.le_cons rfl (St.le_cons rfl (St.le_cons rfl (St.le_cons (slI (by omega)) (St.le_cons rfl (St.le_cons rfl (St.le_cons rfl (St.le_cons rfl (St.le_cons rfl (St.le_cons rfl (St.le_cons rfl (St.le_cons rfl (St.le_cons rfl (St.le_cons rfl (St.le_cons rfl (St.le_nil _))))))))))))))))))
      · have hb3 := ha4 hfp
        apply WPA.draw mixed
        · first | apply Trace.pu [_] (.loadLoc1D ty22 (.plain rfl) rfl rfl) | apply Trace.pu [_] (.loadLoc1 ty22 (.plain rfl) rfl rfl) | apply Trace.pu [] (.loadRp1 ty22 (.plain rfl) rfl) | apply Trace.pu [_] (.loadCol1 ty22 (.plain rfl) rfl rfl rfl (fun _ => by omega))
          apply Trace.pu [] (.move (.plain rfl))
          first | apply Trace.pu [] (.indexRows el22 (.plain rfl) (.plain rfl) (fun _ => ⟨by omega, by omega⟩)) | apply Trace.pu [] (.indexOwn el22 (.plain rfl) (.plain rfl) (fun _ => ⟨by omega, by omega⟩)) | apply Trace.pu [] (.indexSl el22 (.plain rfl) (.plain rfl) (fun _ => ⟨by omega, by omega⟩))
          first | apply Trace.pu [_] (.loadLoc1D ty3 (.plain rfl) rfl rfl) | apply Trace.pu [_] (.loadLoc1 ty3 (.plain rfl) rfl rfl) | apply Trace.pu [] (.loadRp1 ty3 (.plain rfl) rfl) | apply Trace.pu [_] (.loadCol1 ty3 (.plain rfl) rfl rfl rfl (fun _ => by omega))
          apply Trace.pu [] ((Pure.cmp (.plain rfl) (.plain rfl) rfl).to (y := bv false) (congrArg bv (decide_eq_false hfp)))
          apply Trace.pu [] (.move (.plain rfl))
          apply Trace.pg [] rfl (Pure.never (x := bv true) (by intro d h; cases h))
          apply Trace.pg [] rfl (Pure.never (x := bv true) (by intro d h; cases h))
          apply Trace.pg [] rfl (Pure.never (x := bv true) (by intro d h; cases h))
          apply Trace.pg [] rfl (Pure.never (x := bv true) (by intro d h; cases h))
          apply Trace.pg [] rfl (Pure.never (x := bv true) (by intro d h; cases h))
          apply Trace.pg [] rfl (Pure.never (x := bv true) (by intro d h; cases h))
          apply Trace.pg [] rfl (Pure.never (x := bv true) (by intro d h; cases h))
          apply Trace.pg [] rfl (Pure.never (x := bv true) (by intro d h; cases h))
          apply Trace.pg [] rfl (Pure.never (x := bv true) (by intro d h; cases h))
          apply Trace.pg [] rfl (Pure.never (x := bv true) (by intro d h; cases h))
          apply Trace.pg [] rfl (Pure.never (x := bv true) (by intro d h; cases h))
          apply Trace.pg [] rfl (Pure.never (x := bv true) (by intro d h; cases h))
          apply Trace.pg [] rfl (Pure.never (x := bv true) (by intro d h; cases h))
          apply Trace.pg [] rfl (Pure.never (x := bv true) (by intro d h; cases h))
          apply Trace.pg [] rfl (Pure.never (x := bv true) (by intro d h; cases h))
          apply Trace.pu [] (.pick (.plain rfl) (.gd rfl (by simp)) (.plain rfl))
          exact .nil _
        · rfl
        · exact keepOK_of hk hn rfl
        refine WPA.cond rfl (fun hc4 => ?_) (fun hc4 => ?_)
        · cases hc4
        · apply WPA.skip
          apply WPA.region
          · apply Trace.pu [] (.arith (.plain rfl) (.plain rfl) rfl (fun _ => bd64 (by omega)))
            apply Trace.pu [] (.move (.plain rfl))
            exact .nil _
          · exact keepOK_of hk hn rfl
          refine ⟨i + 1, by omega, by omega, ?_⟩
          rw [hb3]
          exact St.le_cons rfl (St.le_cons rfl (St.le_cons rfl (St.le_cons rfl (St.le_cons rfl (St.le_cons rfl (St.le_cons (slI (by omega)) (St.le_cons rfl (St.le_cons rfl (St.le_cons rfl (St.le_cons rfl (St.le_cons rfl (St.le_cons rfl (St.le_cons rfl (St.le_cons rfl (St.le_cons rfl (St.le_cons rfl (St.le_cons rfl (St.le_nil _))))))))))))))))))
  · have hie : i = g.es.length := by
      have : ¬ ((i : Int) < g.es.length) := by simpa using hc1
      omega
    subst hie
    apply WPA.exit
    refine ⟨.inl rfl, ⟨_, (.nil), ?_⟩, blks_of (.cons rfl (.cons rfl (.cons rfl (.cons rfl (.cons rfl (.cons rfl (.cons rfl (.cons rfl (.cons rfl (.cons rfl (.cons rfl (.nil))))))))))))⟩
    rfl

/-- soundpost/certify.saving -/
theorem spec33 {g : Gr} (hok : g.OK) (hn40 : g.lat.length ≤ 40) (hm100 : g.es.length ≤ 100) {pl : List Int} (hat : AtOK g pl) (hlow : Low40 g (fn pl)) {M : Int} {fl : List Int} (hfl : fl.length = g.es.length) : FnSpec Try.prog 33 [g.av, .d (.agg [intsD pl, intsD (g.delTo pl g.es.length), .v (.int .i64 M)]), .own 0 g.es.length] [(bk 0, .blk (.app 1 g.es.length [.ints .i64 fl]))] (.d (arcsRD (savC g (fn pl) fl))) [(bk 0, .blk (.app 1 g.es.length [.ints .i64 fl]))] [0] := by
  have hn1 := hok.n
  have hn2 := hok.m
  have hN := netD_ok hok hlow fl
  have hT := netD_T hn40 hm100 (fn pl) fl
  have hB := netD_B g (fn pl) fl
  refine fnSpec_of_marks (rs := [.tmp 6]) Try.func33 rfl rfl (Nat.le_of_ble_eq_true rfl) (odd_of rfl) fun E hk hn => ?_
  apply WPA.seq
  apply WPA.region
  · apply Trace.boxD 3 [] (.plain rfl) rfl rfl
    apply Trace.boxD 4 [] (.plain rfl) rfl rfl
    apply Trace.pu [] (.assign (.plain rfl))
    exact .nil _
  · exact keepOK_of hk hn rfl
  apply WPA.scope
  apply WPA.seq
  apply WPA.region
  · apply Trace.pu [] (.fieldAddr fl25_0 (.plain rfl) rfl)
    first | apply Trace.pu [_] (.loadLoc1D ty22 (.plain rfl) rfl rfl) | apply Trace.pu [_] (.loadLoc1 ty22 (.plain rfl) rfl rfl) | apply Trace.pu [] (.loadRp1 ty22 (.plain rfl) rfl) | apply Trace.pu [_] (.loadCol1 ty22 (.plain rfl) rfl rfl rfl (fun _ => by omega))
    apply Trace.pu [] (.len rfl Try.underlying22 (.plain rfl) rfl)
    apply Trace.pu [] (.assign (.plain rfl))
    exact .nil _
  · exact keepOK_of hk hn rfl
  apply WPA.seq
  apply WPA.draw mixed
  · apply Trace.pu [] (.move (.plain rfl))
    apply Trace.makeSlice 20 [] so22 by3 zo3 rfl (by decide) (.plain rfl) (.plain rfl) ⟨by omega, by omega⟩ (by omega) (by omega) rfl rfl
    apply Trace.pu [] (.move (.plain rfl))
    apply Trace.makeSlice 22 [] so57 by60 zo60 rfl (by decide) (.plain rfl) (.plain rfl) ⟨by omega, by omega⟩ (by omega) (by omega) rfl rfl
    apply Trace.alloc 8 [] (.data _) zo22 (cellsAs_data _) rfl
    apply Trace.alloc 9 [] (.data _) zo57 (cellsAs_data _) rfl
    first | apply Trace.storeD ty22 (.plain rfl) (.plain rfl) rfl rfl rfl (by simp [AV.oneB, single]) (Nat.le_of_ble_eq_true rfl) rfl | apply Trace.storeDA ty22 (.plain rfl) (.plain rfl) rfl rfl rfl (by simp [AV.oneB, single]) (Nat.le_of_ble_eq_true rfl) rfl | apply Trace.storeLoc ty22 (.plain rfl) (.plain rfl) rfl rfl rfl (by simp [AV.oneB, single]) (Nat.le_of_ble_eq_true rfl) rfl | apply Trace.storeRow ty22 (.plain rfl) (.plain rfl) rfl rfl rfl rfl (by decide) (by simp [AV.oneB, single]) rfl (by omega)
    first | apply Trace.storeD ty57 (.plain rfl) (.plain rfl) rfl rfl rfl (by simp [AV.oneB, single]) (Nat.le_of_ble_eq_true rfl) rfl | apply Trace.storeDA ty57 (.plain rfl) (.plain rfl) rfl rfl rfl (by simp [AV.oneB, single]) (Nat.le_of_ble_eq_true rfl) rfl | apply Trace.storeLoc ty57 (.plain rfl) (.plain rfl) rfl rfl rfl (by simp [AV.oneB, single]) (Nat.le_of_ble_eq_true rfl) rfl | apply Trace.storeRow ty57 (.plain rfl) (.plain rfl) rfl rfl rfl rfl (by decide) (by simp [AV.oneB, single]) rfl (by omega)
    exact .nil _
  · rfl
  · exact keepOK_of hk hn rfl
  apply WPA.seq
  apply WPA.region
  · apply Trace.alloc 10 [] (.data _) zo3 (cellsAs_data _) rfl
    first | apply Trace.storeD ty3 (.plain rfl) (.plain rfl) rfl rfl rfl (by simp [AV.oneB, single]) (Nat.le_of_ble_eq_true rfl) rfl | apply Trace.storeDA ty3 (.plain rfl) (.plain rfl) rfl rfl rfl (by simp [AV.oneB, single]) (Nat.le_of_ble_eq_true rfl) rfl | apply Trace.storeLoc ty3 (.plain rfl) (.plain rfl) rfl rfl rfl (by simp [AV.oneB, single]) (Nat.le_of_ble_eq_true rfl) rfl | apply Trace.storeRow ty3 (.plain rfl) (.plain rfl) rfl rfl rfl rfl (by decide) (by simp [AV.oneB, single]) rfl (by omega)
    exact .nil _
  · exact keepOK_of hk hn rfl
  apply WPA.seq
  apply WPA.label
  apply WPA.seq
  apply WPA.seq
  apply WPA.region
  · apply Trace.pu [] (.assign (.plain rfl))
    exact .nil _
  · exact keepOK_of hk hn rfl
  apply WPA.block
  refine WPA.loop (σ := Nat) (fun i => [(sl 2, .av (.own 0 g.es.length)), (sl 3, .av (.loc 3 0)), (sl 4, .av (.loc 4 0)), (sl 6, .av (.d (.v (.slice none 0 0)))), (sl 7, .av (iv .i64 (g.lat.length))), (sl 8, .av (.loc 8 0)), (sl 9, .av (.loc 9 0)), (sl 10, .av (.loc 10 0)), (sl 11, .av (iv .i64 (i))), (bk 0, .blk (.app 1 g.es.length [.ints .i64 fl])), (bk 3, .blk (.data g.ds)), (bk 4, .blk (.data [intsD pl, intsD (g.delTo pl g.es.length), .v (.int .i64 M)])), (bk 8, .blk (.cells [.own 20 g.lat.length])), (bk 20, .blk (.app 1 g.lat.length [.ints .i64 (negL ((g.netD (fn pl) fl).stt i).at_)])), (bk 9, .blk (.cells [.own 22 g.lat.length])), (bk 22, .blk (.app 5 g.lat.length (arcColsR ((g.netD (fn pl) fl).stt i).lst))), (bk 10, .blk (.data [.v (.int .i64 ((g.netD (fn pl) fl).stt i).node)]))]) (fun i => i ≤ g.lat.length ∧ (g.netD (fn pl) fl).loud i) (fun i => g.lat.length - i) 0
    (St.le_cons rfl (St.le_cons rfl (St.le_cons rfl (St.le_cons rfl (St.le_cons rfl (St.le_cons rfl (St.le_cons rfl (St.le_cons rfl (St.le_cons rfl (St.le_cons rfl (St.le_cons rfl (St.le_cons rfl (St.le_cons rfl (St.le_cons (app_eq64 (by simp only [negL, Net.stt, Net.start, Gr.netC, List.map_replicate]; rfl)) (St.le_cons rfl (St.le_cons (col5 (by simp only [arcColsR, Net.stt, Net.start, Gr.netC, List.map_replicate]; rfl)) (St.le_cons rfl (St.le_nil _)))))))))))))))))) ⟨Nat.zero_le _, fun j h1 h2 => by omega⟩ fun k hk0 => ?_
  apply WPA.seq
  apply WPA.block
  apply WPA.seq
  apply WPA.region
  · apply Trace.alloc 12 [] (.data _) zo4 (cellsAs_data _) rfl
    first | apply Trace.storeD ty4 (.plain rfl) (.plain rfl) rfl rfl rfl (by simp [AV.oneB, single]) (Nat.le_of_ble_eq_true rfl) rfl | apply Trace.storeDA ty4 (.plain rfl) (.plain rfl) rfl rfl rfl (by simp [AV.oneB, single]) (Nat.le_of_ble_eq_true rfl) rfl | apply Trace.storeLoc ty4 (.plain rfl) (.plain rfl) rfl rfl rfl (by simp [AV.oneB, single]) (Nat.le_of_ble_eq_true rfl) rfl | apply Trace.storeRow ty4 (.plain rfl) (.plain rfl) rfl rfl rfl rfl (by decide) (by simp [AV.oneB, single]) rfl (by omega)
    exact .nil _
  · exact keepOK_of hk hn rfl
  apply WPA.seq
  apply WPA.seq
  apply WPA.region
  · first | apply Trace.pu [_] (.loadAllD ty25 (.plain rfl) rfl (by simp)) | apply Trace.pu [_] (.loadLocD ty25 (.plain rfl) rfl (fun _ => by simp)) | apply Trace.pu [_] (.loadLoc ty25 (.plain rfl) rfl (fun _ => Nat.le_of_ble_eq_true rfl)) | apply Trace.pu [] (.loadRp ty25 (.plain rfl) (fun _ => by decide)) | apply Trace.pu [] (.loadRp ty25 (.plain rfl) (fun _ => Nat.le_of_ble_eq_true rfl)) | apply Trace.pu [_] (.loadCol ty25 (.plain rfl) rfl rfl (fun _ => by decide) (fun _ => by omega)) | apply Trace.pu [_] (.loadArr ty25 (.plain rfl) rfl)
    first | apply Trace.pu [_] (.loadAllD ty28 (.plain rfl) rfl (by simp)) | apply Trace.pu [_] (.loadLocD ty28 (.plain rfl) rfl (fun _ => by simp)) | apply Trace.pu [_] (.loadLoc ty28 (.plain rfl) rfl (fun _ => Nat.le_of_ble_eq_true rfl)) | apply Trace.pu [] (.loadRp ty28 (.plain rfl) (fun _ => by decide)) | apply Trace.pu [] (.loadRp ty28 (.plain rfl) (fun _ => Nat.le_of_ble_eq_true rfl)) | apply Trace.pu [_] (.loadCol ty28 (.plain rfl) rfl rfl (fun _ => by decide) (fun _ => by omega)) | apply Trace.pu [_] (.loadArr ty28 (.plain rfl) rfl)
    apply Trace.pu [] (.move (.plain rfl))
    apply Trace.cb [60, 62, 61] [bk 0] (callArgs0 (.cons (.plain rfl) (.cons (.plain rfl) (.cons (.plain rfl) .nil)))) (spec49 g pl M fl g.es.length) en49 (.cons rfl .nil) rfl rfl
    exact .nil _
  · exact keepOK_of hk hn rfl
  apply WPA.block
  refine WPA.rangeFunc (L := 70) (ts := tsS) (ts' := tsS) (new := []) (ds := [bk 60, bk 62, bk 61, bk 0, bk 8, bk 20, bk 9, bk 22, bk 12, bk 10]) rfl rfl rfl en61 (.cons rfl (.cons rfl (.cons rfl (.cons rfl (.nil))))) hn rfl rfl (by rw [hk]; decide) (by simp) (itS hok hat hfl (M := M) (A0 := ((g.netD (fn pl) fl).stt k).node) (s0 := (g.netD (fn pl) fl).stt k) (fun k2 hk2 a ha cst hcst => ?_)) (.cons rfl (.cons rfl (.cons rfl (.cons rfl (.cons rfl (.cons rfl (.cons rfl (.cons rfl (.cons rfl (.cons rfl (.cons rfl (.nil)))))))))))) rfl rfl rfl rfl (by simp) ?_
  · subst hcst
    have hG := lpassTo_good hN hT hB (k := k) (i := k2) hk0.1 (by omega)
    rw [Net.passTo_succ _ _ hk2, ha]
    have hga : a ∈ (g.netD (fn pl) fl).as := by rw [← ha]; exact (Net.arc hN hk2).1
    have hab := hN.as a hga
    generalize (g.netD (fn pl) fl).passTo ((g.netD (fn pl) fl).stt k) k2 = s at hG ⊢
    have hab1 : 0 ≤ a.f ∧ a.f < g.lat.length := hab.1
    have hab2 : 0 ≤ a.t ∧ a.t < g.lat.length := hab.2.1
    have hab3 : -1100000000000 ≤ a.by_ ∧ a.by_ ≤ 1100000000000 := hab.2.2
    have hla : s.at_.length = g.lat.length := hG.la
    have hll : s.lst.length = g.lat.length := hG.ll
    have hnl := negL_len s.at_
    have hb1 := hG.bd a.f.toNat
    have hb2 := hG.bd a.t.toNat
    have hn1' := negL_at s.at_ a.f.toNat
    have hn2' := negL_at s.at_ a.t.toNat
    refine ySpec_of (pe := none) (S1 := [(sl 13, .av (.loc 13 0)), (sl 8, .av (.loc 8 0)), (sl 9, .av (.loc 9 0)), (sl 10, .av (.loc 10 0)), (sl 12, .av (.loc 12 0)), (bk 13, .blk (.data [.v (.int .i64 a.e), .v (.int .i64 a.s), .v (.int .i64 a.f), .v (.int .i64 a.t), .v (.int .i64 (-a.by_))])), (bk 8, .blk (.cells [.own 20 g.lat.length])), (bk 20, .blk (.app 1 g.lat.length [.ints .i64 (negL (s).at_)])), (bk 9, .blk (.cells [.own 22 g.lat.length])), (bk 22, .blk (.app 5 g.lat.length (arcColsR (s).lst))), (bk 12, .blk (.data [.v (.bool (decide (0 ≤ (s).node)))])), (bk 10, .blk (.data [.v (.int .i64 (if (s).node < 0 then ((g.netD (fn pl) fl).stt k).node else (s).node))]))]) rfl rfl rfl rfl rfl rfl rfl rfl ?_ ?_
    · intro E l hk hn
      apply WPA.region
      · apply Trace.alloc 13 [] (.data _) zo60 (cellsAs_data _) rfl
        first | apply Trace.storeD ty60 (.plain rfl) (.plain rfl) rfl rfl (by simp) (by simp [AV.oneB, single]) (by simp) (spliceL_all (by simp)) | apply Trace.storeD ty60 (.plain rfl) (.plain rfl) rfl rfl (by simp) (by simp [AV.oneB, single]) (by simp) rfl | apply Trace.storeDA ty60 (.plain rfl) (.plain rfl) rfl rfl (by simp) (by simp [AV.oneB, single]) (by simp) rfl | apply Trace.storeLoc ty60 (.plain rfl) (.plain rfl) rfl rfl (by simp) (by simp [AV.oneB, single]) (by simp) rfl | apply Trace.storeRow ty60 (.plain rfl) (.plain rfl) rfl rfl rfl rfl (by decide) (by simp [AV.oneB, single]) rfl (by omega)
        exact .nil _
      · exact keepOK_of hk hn rfl
      exact ⟨rfl, St.le_cons rfl (St.le_cons rfl (St.le_cons rfl (St.le_cons rfl (St.le_cons rfl (St.le_cons rfl (St.le_cons rfl (St.le_cons rfl (St.le_cons rfl (St.le_cons rfl (St.le_cons rfl (St.le_cons rfl (St.le_nil _))))))))))))⟩
    · intro E l hk hn
      apply WPA.block
      apply WPA.seq
      apply WPA.draw mixed
      · first | apply Trace.pu [_] (.loadLoc1D ty22 (.plain rfl) rfl rfl) | apply Trace.pu [_] (.loadLoc1 ty22 (.plain rfl) rfl rfl) | apply Trace.pu [] (.loadRp1 ty22 (.plain rfl) rfl) | apply Trace.pu [_] (.loadCol1 ty22 (.plain rfl) rfl rfl rfl (fun _ => by omega))
        apply Trace.pu [] (.fieldAddr fl60_2 (.plain rfl) rfl)
        first | apply Trace.pu [_] (.loadLoc1D ty3 (.plain rfl) rfl rfl) | apply Trace.pu [_] (.loadLoc1 ty3 (.plain rfl) rfl rfl) | apply Trace.pu [] (.loadRp1 ty3 (.plain rfl) rfl) | apply Trace.pu [_] (.loadCol1 ty3 (.plain rfl) rfl rfl rfl (fun _ => by omega))
        first | apply Trace.pu [] (.indexRows el22 (.plain rfl) (.plain rfl) (fun _ => ⟨by omega, by omega⟩)) | apply Trace.pu [] (.indexOwn el22 (.plain rfl) (.plain rfl) (fun _ => ⟨by omega, by omega⟩)) | apply Trace.pu [] (.indexSl el22 (.plain rfl) (.plain rfl) (fun _ => ⟨by omega, by omega⟩))
        first | apply Trace.pu [_] (.loadLoc1D ty3 (.plain rfl) rfl rfl) | apply Trace.pu [_] (.loadLoc1 ty3 (.plain rfl) rfl rfl) | apply Trace.pu [] (.loadRp1 ty3 (.plain rfl) rfl) | apply Trace.pu [_] (.loadCol1 ty3 (.plain rfl) rfl rfl rfl (fun _ => by omega))
        apply Trace.pu [] (.fieldAddr fl60_4 (.plain rfl) rfl)
        first | apply Trace.pu [_] (.loadLoc1D ty3 (.plain rfl) rfl rfl) | apply Trace.pu [_] (.loadLoc1 ty3 (.plain rfl) rfl rfl) | apply Trace.pu [] (.loadRp1 ty3 (.plain rfl) rfl) | apply Trace.pu [_] (.loadCol1 ty3 (.plain rfl) rfl rfl rfl (fun _ => by omega))
        apply Trace.pu [] (.arith (.plain rfl) (.plain rfl) rfl (fun _ => bd64 (by omega)))
        apply Trace.pu [] (.assign (.plain rfl))
        exact .nil _
      · rfl
      · exact keepOK_of hk hn rfl
      apply WPA.seq
      apply WPA.region
      · apply Trace.pu [] (.move (.plain rfl))
        first | apply Trace.pu [_] (.loadLoc1D ty22 (.plain rfl) rfl rfl) | apply Trace.pu [_] (.loadLoc1 ty22 (.plain rfl) rfl rfl) | apply Trace.pu [] (.loadRp1 ty22 (.plain rfl) rfl) | apply Trace.pu [_] (.loadCol1 ty22 (.plain rfl) rfl rfl rfl (fun _ => by omega))
        apply Trace.pu [] (.fieldAddr fl60_3 (.plain rfl) rfl)
        first | apply Trace.pu [_] (.loadLoc1D ty3 (.plain rfl) rfl rfl) | apply Trace.pu [_] (.loadLoc1 ty3 (.plain rfl) rfl rfl) | apply Trace.pu [] (.loadRp1 ty3 (.plain rfl) rfl) | apply Trace.pu [_] (.loadCol1 ty3 (.plain rfl) rfl rfl rfl (fun _ => by omega))
        first | apply Trace.pu [] (.indexRows el22 (.plain rfl) (.plain rfl) (fun _ => ⟨by omega, by omega⟩)) | apply Trace.pu [] (.indexOwn el22 (.plain rfl) (.plain rfl) (fun _ => ⟨by omega, by omega⟩)) | apply Trace.pu [] (.indexSl el22 (.plain rfl) (.plain rfl) (fun _ => ⟨by omega, by omega⟩))
        first | apply Trace.pu [_] (.loadLoc1D ty3 (.plain rfl) rfl rfl) | apply Trace.pu [_] (.loadLoc1 ty3 (.plain rfl) rfl rfl) | apply Trace.pu [] (.loadRp1 ty3 (.plain rfl) rfl) | apply Trace.pu [_] (.loadCol1 ty3 (.plain rfl) rfl rfl rfl (fun _ => by omega))
        apply Trace.pu [] (.cmp (.plain rfl) (.plain rfl) rfl)
        exact .nil _
      · exact keepOK_of hk hn rfl
      refine WPA.cond rfl (fun hc1 => ?_) (fun hc1 => ?_)
      · have hlt9 : (negL s.at_).getD a.f.toNat 0 + -a.by_ < (negL s.at_).getD a.t.toNat 0 := of_decide_eq_true hc1
        have hup : lrelax s a = ⟨s.at_.set a.t.toNat (s.A a.f.toNat + a.by_), s.lst.set a.t.toNat a, a.t⟩ := if_pos (by show s.at_.getD a.t.toNat 0 < s.at_.getD a.f.toNat 0 + a.by_; omega)
        have hdn : (negL s.at_).getD a.f.toNat 0 + -a.by_ = -(s.A a.f.toNat + a.by_) := by rw [hn1']; show -(s.at_.getD a.f.toNat 0) + -a.by_ = -(s.at_.getD a.f.toNat 0 + a.by_); omega
        have e1 : decide (0 ≤ (lrelax s a).node) = true := by rw [hup]; exact decide_eq_true hab2.1
        have e2 : (if (lrelax s a).node < 0 then ((g.netD (fn pl) fl).stt k).node else (lrelax s a).node) = a.t := by rw [hup]; exact if_neg (by show ¬ a.t < 0; omega)
        have e3 : negL (lrelax s a).at_ = (negL s.at_).set a.t.toNat ((negL s.at_).getD a.f.toNat 0 + -a.by_) := by rw [hup, hdn]; exact negL_set _ _ _
        have e4 : arcColsR (lrelax s a).lst = arcColsR (s.lst.set a.t.toNat a) := by rw [hup]
        apply WPA.draw mixed
        · first | apply Trace.pu [_] (.loadLoc1D ty22 (.plain rfl) rfl rfl) | apply Trace.pu [_] (.loadLoc1 ty22 (.plain rfl) rfl rfl) | apply Trace.pu [] (.loadRp1 ty22 (.plain rfl) rfl) | apply Trace.pu [_] (.loadCol1 ty22 (.plain rfl) rfl rfl rfl (fun _ => by omega))
          apply Trace.pu [] (.fieldAddr fl60_3 (.plain rfl) rfl)
          first | apply Trace.pu [_] (.loadLoc1D ty3 (.plain rfl) rfl rfl) | apply Trace.pu [_] (.loadLoc1 ty3 (.plain rfl) rfl rfl) | apply Trace.pu [] (.loadRp1 ty3 (.plain rfl) rfl) | apply Trace.pu [_] (.loadCol1 ty3 (.plain rfl) rfl rfl rfl (fun _ => by omega))
          first | apply Trace.pu [_] (.loadLoc1D ty57 (.plain rfl) rfl rfl) | apply Trace.pu [_] (.loadLoc1 ty57 (.plain rfl) rfl rfl) | apply Trace.pu [] (.loadRp1 ty57 (.plain rfl) rfl) | apply Trace.pu [_] (.loadCol1 ty57 (.plain rfl) rfl rfl rfl (fun _ => by omega))
          apply Trace.pu [] (.fieldAddr fl60_3 (.plain rfl) rfl)
          first | apply Trace.pu [_] (.loadLoc1D ty3 (.plain rfl) rfl rfl) | apply Trace.pu [_] (.loadLoc1 ty3 (.plain rfl) rfl rfl) | apply Trace.pu [] (.loadRp1 ty3 (.plain rfl) rfl) | apply Trace.pu [_] (.loadCol1 ty3 (.plain rfl) rfl rfl rfl (fun _ => by omega))
          apply Trace.pu [] (.move (.plain rfl))
          first | apply Trace.pu [_] (.loadAllD ty60 (.plain rfl) rfl (by simp)) | apply Trace.pu [_] (.loadLocD ty60 (.plain rfl) rfl (fun _ => by simp)) | apply Trace.pu [_] (.loadLoc ty60 (.plain rfl) rfl (fun _ => Nat.le_of_ble_eq_true rfl)) | apply Trace.pu [] (.loadRp ty60 (.plain rfl) (fun _ => by decide)) | apply Trace.pu [] (.loadRp ty60 (.plain rfl) (fun _ => Nat.le_of_ble_eq_true rfl)) | apply Trace.pu [_] (.loadCol ty60 (.plain rfl) rfl rfl (fun _ => by decide) (fun _ => by omega)) | apply Trace.pu [_] (.loadArr ty60 (.plain rfl) rfl)
          apply Trace.pu [] (.fieldAddr fl60_3 (.plain rfl) rfl)
          first | apply Trace.pu [_] (.loadLoc1D ty3 (.plain rfl) rfl rfl) | apply Trace.pu [_] (.loadLoc1 ty3 (.plain rfl) rfl rfl) | apply Trace.pu [] (.loadRp1 ty3 (.plain rfl) rfl) | apply Trace.pu [_] (.loadCol1 ty3 (.plain rfl) rfl rfl rfl (fun _ => by omega))
          first | apply Trace.pu [] (.indexRows el22 (.plain rfl) (.plain rfl) (fun _ => ⟨by omega, by omega⟩)) | apply Trace.pu [] (.indexOwn el22 (.plain rfl) (.plain rfl) (fun _ => ⟨by omega, by omega⟩)) | apply Trace.pu [] (.indexSl el22 (.plain rfl) (.plain rfl) (fun _ => ⟨by omega, by omega⟩))
          first | apply Trace.storeD ty3 (.plain rfl) (.plain rfl) rfl rfl rfl (by simp [AV.oneB, single]) (Nat.le_of_ble_eq_true rfl) rfl | apply Trace.storeDA ty3 (.plain rfl) (.plain rfl) rfl rfl rfl (by simp [AV.oneB, single]) (Nat.le_of_ble_eq_true rfl) rfl | apply Trace.storeLoc ty3 (.plain rfl) (.plain rfl) rfl rfl rfl (by simp [AV.oneB, single]) (Nat.le_of_ble_eq_true rfl) rfl | apply Trace.storeRow ty3 (.plain rfl) (.plain rfl) rfl rfl rfl rfl (by decide) (by simp [AV.oneB, single]) rfl (by omega)
          first | apply Trace.pu [] (.indexRows el57 (.plain rfl) (.plain rfl) (fun _ => ⟨by omega, by omega⟩)) | apply Trace.pu [] (.indexOwn el57 (.plain rfl) (.plain rfl) (fun _ => ⟨by omega, by omega⟩)) | apply Trace.pu [] (.indexSl el57 (.plain rfl) (.plain rfl) (fun _ => ⟨by omega, by omega⟩))
          first | apply Trace.storeD ty60 (.plain rfl) (.plain rfl) rfl rfl (by simp) (by simp [AV.oneB, single]) (by simp) (spliceL_all (by simp)) | apply Trace.storeD ty60 (.plain rfl) (.plain rfl) rfl rfl (by simp) (by simp [AV.oneB, single]) (by simp) rfl | apply Trace.storeDA ty60 (.plain rfl) (.plain rfl) rfl rfl (by simp) (by simp [AV.oneB, single]) (by simp) rfl | apply Trace.storeLoc ty60 (.plain rfl) (.plain rfl) rfl rfl (by simp) (by simp [AV.oneB, single]) (by simp) rfl | apply Trace.storeRow ty60 (.plain rfl) (.plain rfl) rfl rfl rfl rfl (by decide) (by simp [AV.oneB, single]) rfl (by omega)
          first | apply Trace.storeD ty4 (.plain rfl) (.plain rfl) rfl rfl rfl (by simp [AV.oneB, single]) (Nat.le_of_ble_eq_true rfl) rfl | apply Trace.storeDA ty4 (.plain rfl) (.plain rfl) rfl rfl rfl (by simp [AV.oneB, single]) (Nat.le_of_ble_eq_true rfl) rfl | apply Trace.storeLoc ty4 (.plain rfl) (.plain rfl) rfl rfl rfl (by simp [AV.oneB, single]) (Nat.le_of_ble_eq_true rfl) rfl | apply Trace.storeRow ty4 (.plain rfl) (.plain rfl) rfl rfl rfl rfl (by decide) (by simp [AV.oneB, single]) rfl (by omega)
          first | apply Trace.storeD ty3 (.plain rfl) (.plain rfl) rfl rfl rfl (by simp [AV.oneB, single]) (Nat.le_of_ble_eq_true rfl) rfl | apply Trace.storeDA ty3 (.plain rfl) (.plain rfl) rfl rfl rfl (by simp [AV.oneB, single]) (Nat.le_of_ble_eq_true rfl) rfl | apply Trace.storeLoc ty3 (.plain rfl) (.plain rfl) rfl rfl rfl (by simp [AV.oneB, single]) (Nat.le_of_ble_eq_true rfl) rfl | apply Trace.storeRow ty3 (.plain rfl) (.plain rfl) rfl rfl rfl rfl (by decide) (by simp [AV.oneB, single]) rfl (by omega)
          exact .nil _
        · rfl
        · exact keepOK_of hk hn rfl
        first
          | exact ⟨rfl, blks_of (.cons rfl (.cons (app_eq64 e3.symm) (.cons rfl (.cons (col5 (by rw [e4]; simp [arcColsR, List.map_set])) (.cons (datB e1.symm) (.cons (datI e2.symm) .nil))))))⟩
          | exact ⟨rfl, blks_of (.cons rfl (.cons rfl (.cons rfl (.cons rfl (.cons rfl (.cons rfl .nil))))))⟩
      · have hlt9 : ¬ (negL s.at_).getD a.f.toNat 0 + -a.by_ < (negL s.at_).getD a.t.toNat 0 := of_decide_eq_false hc1
        have hup : lrelax s a = s := if_neg (by show ¬ s.at_.getD a.t.toNat 0 < s.at_.getD a.f.toNat 0 + a.by_; omega)
        rw [hup]
        apply WPA.skip
        first
          | exact ⟨rfl, blks_of (.cons rfl (.cons (app_eq64 e3.symm) (.cons rfl (.cons (col5 (by rw [e4]; simp [arcColsR, List.map_set])) (.cons (datB e1.symm) (.cons (datI e2.symm) .nil))))))⟩
          | exact ⟨rfl, blks_of (.cons rfl (.cons rfl (.cons rfl (.cons rfl (.cons rfl (.cons rfl .nil))))))⟩
  · refine WPA.weaken (T := [(sl 2, .av (.own 0 g.es.length)), (sl 3, .av (.loc 3 0)), (sl 4, .av (.loc 4 0)), (sl 6, .av (.d (.v (.slice none 0 0)))), (sl 7, .av (iv .i64 (g.lat.length))), (sl 8, .av (.loc 8 0)), (sl 9, .av (.loc 9 0)), (sl 10, .av (.loc 10 0)), (sl 11, .av (iv .i64 (k))), (sl 12, .av (.loc 12 0)), (bk 0, .blk (.app 1 g.es.length [.ints .i64 fl])), (bk 3, .blk (.data g.ds)), (bk 4, .blk (.data [intsD pl, intsD (g.delTo pl g.es.length), .v (.int .i64 M)])), (bk 8, .blk (.cells [.own 20 g.lat.length])), (bk 20, .blk (.app 1 g.lat.length [.ints .i64 (negL ((g.netD (fn pl) fl).stt (k + 1)).at_)])), (bk 9, .blk (.cells [.own 22 g.lat.length])), (bk 22, .blk (.app 5 g.lat.length (arcColsR ((g.netD (fn pl) fl).stt (k + 1)).lst))), (bk 12, .blk (.data [.v (.bool (decide (0 ≤ ((g.netD (fn pl) fl).stt (k + 1)).node)))])), (bk 10, .blk (.data [.v (.int .i64 (if ((g.netD (fn pl) fl).stt (k + 1)).node < 0 then ((g.netD (fn pl) fl).stt k).node else ((g.netD (fn pl) fl).stt (k + 1)).node))]))]) ?_ (St.le_cons (by kernel_rfl) (St.le_cons (by kernel_rfl) (St.le_cons (by kernel_rfl) (St.le_cons (by kernel_rfl) (St.le_cons (by kernel_rfl) (St.le_cons (by kernel_rfl) (St.le_cons (by kernel_rfl) (St.le_cons (by kernel_rfl) (St.le_cons (by kernel_rfl) (St.le_cons (by kernel_rfl) (St.le_cons (by kernel_rfl) (St.le_cons (by kernel_rfl) (St.le_cons (by kernel_rfl) (St.le_cons (by kernel_rfl) (St.le_cons (by kernel_rfl) (St.le_cons (by kernel_rfl) (St.le_cons (by kernel_rfl) (St.le_cons (by kernel_rfl) (St.le_cons (by kernel_rfl) (St.le_nil _))))))))))))))))))))
    apply WPA.block
    apply WPA.seq
    apply WPA.region
    · first | apply Trace.pu [_] (.loadLoc1D ty4 (.plain rfl) rfl rfl) | apply Trace.pu [_] (.loadLoc1 ty4 (.plain rfl) rfl rfl) | apply Trace.pu [] (.loadRp1 ty4 (.plain rfl) rfl) | apply Trace.pu [_] (.loadCol1 ty4 (.plain rfl) rfl rfl rfl (fun _ => by omega))
      apply Trace.pu [] (.not (.plain rfl))
      apply Trace.pu [] (.assign (.plain rfl))
      exact .nil _
    · exact keepOK_of hk hn rfl
    refine WPA.cond rfl (fun hc2 => ?_) (fun hc2 => ?_)
    · have hq : ((g.netD (fn pl) fl).stt (k + 1)).node < 0 := by
        have : decide (0 ≤ ((g.netD (fn pl) fl).stt (k + 1)).node) = false := by simpa using hc2
        have := of_decide_eq_false this
        omega
      have hrun := lrun_quiet hk0.1 hk0.2 hq
      rw [← hrun] at hq
      have hSv : savC g (fn pl) fl = [] := if_pos hq
      apply WPA.seq
      apply WPA.region
      · apply Trace.pu [] (.assign (.plain rfl))
        exact .nil _
      · exact keepOK_of hk hn rfl
      refine WPA.ghost (Ghost.slot (t := 6) (x := .d (.v (.slice none 0 0))) (y := .d (arcsRD [])) rfl den_emp) ?_
      apply WPA.ret
      refine ⟨.inr rfl, ⟨_, (.cons (.tmp rfl) .nil), ?_⟩, blks_of (.cons rfl .nil)⟩
      rw [hSv]; rfl
    · have hnq : 0 ≤ ((g.netD (fn pl) fl).stt (k + 1)).node := by
        have : decide (0 ≤ ((g.netD (fn pl) fl).stt (k + 1)).node) = true := by simpa using hc2
        exact of_decide_eq_true this
      apply WPA.seq
      apply WPA.region
      · apply Trace.pu [] (.move (.plain rfl))
        apply Trace.pu [] (.move (.plain rfl))
        apply Trace.pu [] (.cmp (.plain rfl) (.plain rfl) rfl)
        apply Trace.pu [] (.assign (.plain rfl))
        exact .nil _
      · exact keepOK_of hk hn rfl
      refine WPA.cond rfl (fun hc3 => ?_) (fun hc3 => ?_)
      · have hkn : k = g.lat.length := by
          have := of_decide_eq_true hc3
          omega
        subst hkn
        have hrun := lrun_full (N := (g.netD (fn pl) fl)) (fun j h1 h2 => by
          by_cases hj : j = g.lat.length + 1
          · subst hj; exact hnq
          · exact hk0.2 j h1 (by have h2 : j ≤ g.lat.length + 1 := h2; omega))
        have hrun : (g.netD (fn pl) fl).run = (g.netD (fn pl) fl).stt (g.lat.length + 1) := hrun
        have hG := lstt_good hN hT hB (k := g.lat.length + 1) (Nat.le_refl _)
        have hcs := lrun_cases hN
        have hSv : savC g (fn pl) fl = (g.netD (fn pl) fl).cyc := if_neg (by rw [hrun]; omega)
        have hcyc : (g.netD (fn pl) fl).cyc = (g.netD (fn pl) fl).run.gone (g.netD (fn pl) fl).knot ((g.netD (fn pl) fl).run.per g.lat.length (g.netD (fn pl) fl).knot) := rfl
        have hkn2 : (g.netD (fn pl) fl).knot = (g.netD (fn pl) fl).run.back g.lat.length (g.netD (fn pl) fl).run.node.toNat := rfl
        rw [← hrun] at hG hnq ⊢
        obtain ⟨r, hr⟩ : ∃ r, (g.netD (fn pl) fl).run = r := ⟨_, rfl⟩
        rw [hr] at hcs hcyc hkn2 hG hnq ⊢
        rcases hcs with ⟨h1, _⟩ | ⟨⟨v, hv, hnd⟩, hway, hcy⟩
        · omega
        have hv : v < g.lat.length := hv
        rw [hnd] at hway hkn2
        rw [show ((v : Nat) : Int).toNat = v from rfl] at hway hkn2
        rw [hkn2] at hcy hcyc
        obtain ⟨x, hx⟩ : ∃ x, r.back g.lat.length v = x := ⟨_, rfl⟩
        rw [hx] at hcy hcyc
        obtain ⟨hp0, hpn, hpx, hpmin⟩ := lper_spec hcy
        have hp0 : 0 < r.per g.lat.length x := hp0
        have hpn : r.per g.lat.length x ≤ g.lat.length := hpn
        have hpx : r.back (r.per g.lat.length x) x = x := hpx
        have hpmin : ∀ k, 0 < k → k < r.per g.lat.length x → r.back k x ≠ x := hpmin
        obtain ⟨p, hp⟩ : ∃ p, r.per g.lat.length x = p := ⟨_, rfl⟩
        rw [hp] at hp0 hpn hpx hpmin hcyc
        have hll : r.lst.length = g.lat.length := hG.ll
        have hstep : ∀ y, LOn (g.netD (fn pl) fl) r y → y < g.lat.length ∧ ((r.lst.map (·.f)).getD y 0) = ((r.pr y : Nat) : Int) := fun y o => by
          have h1 : y < g.lat.length := o.lt
          have h2 := hN.as _ o.mem
          refine ⟨h1, ?_⟩
          rw [mapF (by omega)]
          unfold LP.pr
          show (r.L y).f = _
          omega
        apply WPA.exit
        apply WPA.seq
        apply WPA.seq
        refine WPA.weaken (T := [(sl 6, .av (.d (.v (.slice none 0 0)))), (sl 7, .av (iv .i64 (g.lat.length))), (sl 9, .av (.loc 9 0)), (sl 10, .av (.loc 10 0)), (bk 0, .blk (.app 1 g.es.length [.ints .i64 fl])), (bk 8, .blk (.cells [.own 20 g.lat.length])), (bk 20, .blk (.app 1 g.lat.length [.ints .i64 (negL (r).at_)])), (bk 9, .blk (.cells [.own 22 g.lat.length])), (bk 22, .blk (.app 5 g.lat.length (arcColsR (r).lst))), (bk 10, .blk (.data [.v (.int .i64 (v : Nat))]))]) ?_ (St.le_cons rfl (St.le_cons rfl (St.le_cons rfl (St.le_cons rfl (St.le_cons rfl (St.le_cons rfl (St.le_cons rfl (St.le_cons rfl (St.le_cons rfl (St.le_cons (datI (by rw [if_neg (by omega)]; exact hnd)) (St.le_nil _)))))))))))
        apply WPA.region
        · apply Trace.pu [] (.move (.plain rfl))
          apply Trace.pu [] (.move (.plain rfl))
          exact .nil _
        · exact keepOK_of hk hn rfl
        apply WPA.block
        refine WPA.loop (σ := Nat) (fun i => [(sl 6, .av (.d (.v (.slice none 0 0)))), (sl 7, .av (iv .i64 (g.lat.length))), (sl 9, .av (.loc 9 0)), (sl 10, .av (.loc 10 0)), (sl 64, .av (iv .i64 (g.lat.length))), (sl 65, .av (iv .i64 (i))), (bk 0, .blk (.app 1 g.es.length [.ints .i64 fl])), (bk 8, .blk (.cells [.own 20 g.lat.length])), (bk 20, .blk (.app 1 g.lat.length [.ints .i64 (negL (r).at_)])), (bk 9, .blk (.cells [.own 22 g.lat.length])), (bk 22, .blk (.app 5 g.lat.length (arcColsR (r).lst))), (bk 10, .blk (.data [.v (.int .i64 (r.back i v : Nat))]))]) (fun i => i ≤ g.lat.length) (fun i => g.lat.length - i) 0
          (St.le_cons rfl (St.le_cons rfl (St.le_cons rfl (St.le_cons rfl (St.le_cons rfl (St.le_cons rfl (St.le_cons rfl (St.le_cons rfl (St.le_cons rfl (St.le_cons rfl (St.le_cons rfl (St.le_cons rfl (St.le_nil _))))))))))))) (Nat.zero_le _) fun j hj => ?_
        apply WPA.seq
        apply WPA.region
        · apply Trace.pu [] (.cmp (.plain rfl) (.plain rfl) rfl)
          exact .nil _
        · exact keepOK_of hk hn rfl
        apply WPA.seq
        refine WPA.cond rfl (fun hc4 => ?_) (fun hc4 => ?_)
        · have hjl : j < g.lat.length := by simpa using hc4
          obtain ⟨hs1, hs2⟩ := hstep _ (hway j)
          apply WPA.skip
          apply WPA.seq
          apply WPA.block
          apply WPA.region
          · first | apply Trace.pu [_] (.loadLoc1D ty57 (.plain rfl) rfl rfl) | apply Trace.pu [_] (.loadLoc1 ty57 (.plain rfl) rfl rfl) | apply Trace.pu [] (.loadRp1 ty57 (.plain rfl) rfl) | apply Trace.pu [_] (.loadCol1 ty57 (.plain rfl) rfl rfl rfl (fun _ => by omega))
            first | apply Trace.pu [_] (.loadLoc1D ty3 (.plain rfl) rfl rfl) | apply Trace.pu [_] (.loadLoc1 ty3 (.plain rfl) rfl rfl) | apply Trace.pu [] (.loadRp1 ty3 (.plain rfl) rfl) | apply Trace.pu [_] (.loadCol1 ty3 (.plain rfl) rfl rfl rfl (fun _ => by omega))
            first | apply Trace.pu [] (.indexRows el57 (.plain rfl) (.plain rfl) (fun _ => ⟨by omega, by omega⟩)) | apply Trace.pu [] (.indexOwn el57 (.plain rfl) (.plain rfl) (fun _ => ⟨by omega, by omega⟩)) | apply Trace.pu [] (.indexSl el57 (.plain rfl) (.plain rfl) (fun _ => ⟨by omega, by omega⟩))
            apply Trace.pu [] (.fieldAddr fl60_2 (.plain rfl) rfl)
            first | apply Trace.pu [_] (.loadLoc1D ty3 (.plain rfl) rfl rfl) | apply Trace.pu [_] (.loadLoc1 ty3 (.plain rfl) rfl rfl) | apply Trace.pu [] (.loadRp1 ty3 (.plain rfl) rfl) | apply Trace.pu [_] (.loadCol1 ty3 (.plain rfl) rfl rfl rfl (fun _ => by omega))
            first | apply Trace.storeD ty3 (.plain rfl) (.plain rfl) rfl rfl rfl (by simp [AV.oneB, single]) (Nat.le_of_ble_eq_true rfl) rfl | apply Trace.storeDA ty3 (.plain rfl) (.plain rfl) rfl rfl rfl (by simp [AV.oneB, single]) (Nat.le_of_ble_eq_true rfl) rfl | apply Trace.storeLoc ty3 (.plain rfl) (.plain rfl) rfl rfl rfl (by simp [AV.oneB, single]) (Nat.le_of_ble_eq_true rfl) rfl | apply Trace.storeRow ty3 (.plain rfl) (.plain rfl) rfl rfl rfl rfl (by decide) (by simp [AV.oneB, single]) rfl (by omega)
            exact .nil _
          · exact keepOK_of hk hn rfl
          apply WPA.region
          · apply Trace.pu [] (.arith (.plain rfl) (.plain rfl) rfl (fun _ => bd64 (by omega)))
            apply Trace.pu [] (.move (.plain rfl))
            exact .nil _
          · exact keepOK_of hk hn rfl
          exact ⟨j + 1, by omega, by omega, St.le_cons rfl (St.le_cons rfl (St.le_cons rfl (St.le_cons rfl (St.le_cons rfl (St.le_cons (slI (by omega)) (St.le_cons rfl (St.le_cons rfl (St.le_cons rfl (St.le_cons rfl (St.le_cons rfl (St.le_cons (datI hs2) (St.le_nil _))))))))))))⟩
        · have hjn : j = g.lat.length := by
            have : ¬ ((j : Int) < g.lat.length) := by simpa using hc4
            omega
          subst hjn
          rw [hx]
          refine WPA.ghost (Ghost.ownNil' (t := 6) (l := 90) (cs := arcColsR []) (n := 5) rfl rfl (by rw [hk]; decide) (by rw [hn]; exact Nat.le_of_ble_eq_true rfl) rfl (by intro c hc; simp [arcColsR] at hc; subst hc; rfl)) ?_
          apply WPA.exit
          apply WPA.seq
          apply WPA.seq
          apply WPA.region
          · first | apply Trace.pu [_] (.loadLoc1D ty3 (.plain rfl) rfl rfl) | apply Trace.pu [_] (.loadLoc1 ty3 (.plain rfl) rfl rfl) | apply Trace.pu [] (.loadRp1 ty3 (.plain rfl) rfl) | apply Trace.pu [_] (.loadCol1 ty3 (.plain rfl) rfl rfl rfl (fun _ => by omega))
            apply Trace.pu [] (.assign (.plain rfl))
            exact .nil _
          · exact keepOK_of hk hn rfl
          apply WPA.block
          refine WPA.loop (σ := Nat) (fun i => [(sl 6, .av (.own 90 i)), (sl 9, .av (.loc 9 0)), (sl 10, .av (.loc 10 0)), (sl 15, .av (iv .i64 ((r.back i x : Nat)))), (bk 0, .blk (.app 1 g.es.length [.ints .i64 fl])), (bk 8, .blk (.cells [.own 20 g.lat.length])), (bk 20, .blk (.app 1 g.lat.length [.ints .i64 (negL (r).at_)])), (bk 9, .blk (.cells [.own 22 g.lat.length])), (bk 22, .blk (.app 5 g.lat.length (arcColsR (r).lst))), (bk 10, .blk (.data [.v (.int .i64 (x : Nat))])), (bk 90, .blk (.app 5 i (arcColsR (r.gone x i))))]) (fun i => i ≤ p) (fun i => p - i) 0
            (St.le_cons rfl (St.le_cons rfl (St.le_cons rfl (St.le_cons rfl (St.le_cons rfl (St.le_cons rfl (St.le_cons rfl (St.le_cons rfl (St.le_cons rfl (St.le_cons rfl (St.le_cons rfl (St.le_nil _)))))))))))) (Nat.zero_le _) fun i hi => ?_
          apply WPA.seq
          apply WPA.seq
          apply WPA.region
          · apply Trace.pu [] (.move (.plain rfl))
            apply Trace.pu [] (.len rfl Try.underlying57 (.plain rfl) rfl)
            apply Trace.pu [] (.cmp (.plain rfl) (.plain rfl) rfl)
            apply Trace.pu [] (.move (.plain rfl))
            apply Trace.pg [] rfl (.move (.plain rfl))
            first | apply Trace.pg [_] rfl (.loadLoc1D ty3 (.plain rfl) rfl rfl) | apply Trace.pg [_] rfl (.loadLoc1 ty3 (.plain rfl) rfl rfl) | apply Trace.pg [] rfl (.loadRp1 ty3 (.plain rfl) rfl) | apply Trace.pg [_] rfl (.loadCol1 ty3 (.plain rfl) rfl rfl rfl (fun _ => by omega))
            apply Trace.pg [] rfl (.cmp (.gd rfl (fun h => h)) (.gd rfl (fun h => h)) rfl)
            apply Trace.pu [] (.pick (.plain rfl) (.plain rfl) (.gd rfl (by simp)))
            exact .nil _
          · exact keepOK_of hk hn rfl
          refine WPA.cond rfl (fun hc5 => ?_) (fun hc5 => ?_)
          · have hlt : i < p := by
              have h9 : (bif decide ((i : Int) = 0) then true else !decide (((r.back i x : Nat) : Int) = (x : Nat))) = true := hc5
              rw [bif_or, Bool.or_eq_true, decide_eq_true_eq, Bool.not_eq_true', decide_eq_false_iff_not] at h9
              rcases h9 with h9 | h9
              · omega
              · by_cases e : i = p
                · rw [e, hpx] at h9; exact absurd rfl h9
                · omega
            obtain ⟨hs1, hs2⟩ := hstep _ (hcy.way i)
            apply WPA.skip
            apply WPA.seq
            apply WPA.block
            apply WPA.region
            · apply Trace.pu [] (.move (.plain rfl))
              first | apply Trace.pu [_] (.loadLoc1D ty57 (.plain rfl) rfl rfl) | apply Trace.pu [_] (.loadLoc1 ty57 (.plain rfl) rfl rfl) | apply Trace.pu [] (.loadRp1 ty57 (.plain rfl) rfl) | apply Trace.pu [_] (.loadCol1 ty57 (.plain rfl) rfl rfl rfl (fun _ => by omega))
              apply Trace.pu [] (.move (.plain rfl))
              first | apply Trace.pu [] (.indexRows el57 (.plain rfl) (.plain rfl) (fun _ => ⟨by omega, by omega⟩)) | apply Trace.pu [] (.indexOwn el57 (.plain rfl) (.plain rfl) (fun _ => ⟨by omega, by omega⟩)) | apply Trace.pu [] (.indexSl el57 (.plain rfl) (.plain rfl) (fun _ => ⟨by omega, by omega⟩))
              apply Trace.pu [22] (.loadCol ty60 (.plain rfl) rfl rfl (fun _ => Nat.le_of_ble_eq_true rfl) (fun _ => by omega))
              apply Trace.buildSlice 92 [] so57 zo60 rfl (by decide) (by decide) (.cons (.plain rfl) rfl rfl (Nat.le_of_ble_eq_true rfl) (.nil _ _)) rfl rfl rfl
              apply Trace.append 93 [bk 90, bk 92, sl 87, sl 92, sl 6] ap57 kd57 (by decide) (.own (.plain rfl) rfl) (.own (.plain rfl) rfl) (Col.ones rfl) (labs_ok rfl) (by omega) (by omega) rfl rfl
              apply Trace.pu [] (.assign (.plain rfl))
              exact .nil _
            · exact keepOK_of hk hn rfl
            refine WPA.ghost (Ghost.swap 90 93 (by rw [hk]; decide) (by rw [hk]; decide) rfl) ?_
            apply WPA.region
            · first | apply Trace.pu [_] (.loadLoc1D ty57 (.plain rfl) rfl rfl) | apply Trace.pu [_] (.loadLoc1 ty57 (.plain rfl) rfl rfl) | apply Trace.pu [] (.loadRp1 ty57 (.plain rfl) rfl) | apply Trace.pu [_] (.loadCol1 ty57 (.plain rfl) rfl rfl rfl (fun _ => by omega))
              apply Trace.pu [] (.move (.plain rfl))
              first | apply Trace.pu [] (.indexRows el57 (.plain rfl) (.plain rfl) (fun _ => ⟨by omega, by omega⟩)) | apply Trace.pu [] (.indexOwn el57 (.plain rfl) (.plain rfl) (fun _ => ⟨by omega, by omega⟩)) | apply Trace.pu [] (.indexSl el57 (.plain rfl) (.plain rfl) (fun _ => ⟨by omega, by omega⟩))
              apply Trace.pu [] (.fieldAddr fl60_2 (.plain rfl) rfl)
              first | apply Trace.pu [_] (.loadLoc1D ty3 (.plain rfl) rfl rfl) | apply Trace.pu [_] (.loadLoc1 ty3 (.plain rfl) rfl rfl) | apply Trace.pu [] (.loadRp1 ty3 (.plain rfl) rfl) | apply Trace.pu [_] (.loadCol1 ty3 (.plain rfl) rfl rfl rfl (fun _ => by omega))
              apply Trace.pu [] (.assign (.plain rfl))
              exact .nil _
            · exact keepOK_of hk hn rfl
            exact ⟨i + 1, by omega, by omega, St.le_cons rfl (St.le_cons rfl (St.le_cons rfl (St.le_cons (slI hs2) (St.le_cons rfl (St.le_cons rfl (St.le_cons rfl (St.le_cons rfl (St.le_cons rfl (St.le_cons rfl (St.le_cons (col5 (by simp only [arcColsR, LP.gone, List.range_succ, List.map_append, List.map_cons, List.map_nil, LP.L]; rw [← mapF (by omega), ← mapT (by omega), ← mapC (by omega), ← mapE (by omega), ← mapS (by omega)]; rfl)) (St.le_nil _)))))))))))⟩
          · have hip : i = p := by
              have h9 : (bif decide ((i : Int) = 0) then true else !decide (((r.back i x : Nat) : Int) = (x : Nat))) = false := hc5
              rw [bif_or, Bool.or_eq_false_iff, decide_eq_false_iff_not, Bool.not_eq_false', decide_eq_true_eq] at h9
              by_cases e : i = p
              · exact e
              · exact absurd (by omega) (hpmin i (by omega) (by omega))
            subst hip
            apply WPA.exit
            apply WPA.seq
            refine WPA.ghost (Ghost.freezeAs (t := 6) (l := 90) (g := fun k => (arcColsR (r.gone x i)).map (Col.at · k)) rfl rfl (fun k hk => rfl)) ?_
            apply WPA.region
            · apply Trace.pu [] (.move (.plain rfl))
              apply Trace.pu [] (.assign (.plain rfl))
              exact .nil _
            · exact keepOK_of hk hn rfl
            apply WPA.ret
            refine ⟨.inr rfl, ⟨_, (.cons (.tmp rfl) .nil), ?_⟩, blks_of (.cons rfl .nil)⟩
            rw [hSv, hcyc]
            simp only [arcsRD, rowsD, List.length_map, List.length_range]
            rfl
      · have hkl : k < g.lat.length := by
          have := of_decide_eq_false hc3
          have := hk0.1
          omega
        apply WPA.skip
        apply WPA.region
        · apply Trace.pu [] (.move (.plain rfl))
          apply Trace.pu [] (.arith (.plain rfl) (.plain rfl) rfl (fun _ => bd64 (by omega)))
          apply Trace.pu [] (.assign (.plain rfl))
          exact .nil _
        · exact keepOK_of hk hn rfl
        exact ⟨k + 1, ⟨by omega, fun j h1 h2 => by
          by_cases hj : j = k + 1
          · subst hj; exact hnq
          · exact hk0.2 j h1 (by omega)⟩, by omega, St.le_cons rfl (St.le_cons rfl (St.le_cons rfl (St.le_cons rfl (St.le_cons rfl (St.le_cons rfl (St.le_cons rfl (St.le_cons rfl (St.le_cons (slI (by omega)) (St.le_cons rfl (St.le_cons rfl (St.le_cons rfl (St.le_cons rfl (St.le_cons rfl (St.le_cons rfl (St.le_cons rfl (St.le_cons (datI (if_neg (by omega))) (St.le_nil _)))))))))))))))))⟩

end Go.Proofs.Ytcidkahhfdcddaa


/- Helpers about plans of small graphs. -/
namespace Go.Proofs.Ytcidkahhfdcddaa
open Go
set_option linter.unusedVariables false
set_option linter.unusedSimpArgs false
set_option maxRecDepth 10000
set_option maxHeartbeats 1000000

theorem sz_of {g : Gr} (h : (decide (g.lat.length ≤ 4611686018427387904 ∧ g.es.length ≤ 4611686018427387904) && (g.lat.all fun x => decide (-9223372036854775808 ≤ x ∧ x ≤ 9223372036854775807)) &&
    g.es.all fun e => decide ((-9223372036854775808 ≤ e.f ∧ e.f ≤ 9223372036854775807) ∧ (-9223372036854775808 ≤ e.t ∧ e.t ≤ 9223372036854775807) ∧ (-9223372036854775808 ≤ e.w ∧ e.w ≤ 9223372036854775807) ∧ -9223372036854775808 ≤ e.d ∧ e.d ≤ 9223372036854775807)) = true) : g.Sz := by
  simp only [Bool.and_eq_true, decide_eq_true_eq, List.all_eq_true] at h
  exact ⟨h.1.1.1, h.1.1.2, h.1.2, h.2⟩
theorem mk_run {g : Gr} : ∀ {k : Nat} {fl a : List Int}, g.mkP k fl = some a → ∃ fl', a = (g.net fl').run.at_ ∧ (g.net fl').run.node < 0
  | 0, _, _, h => by cases h
  | k + 1, fl, a, h => by
    have h : (if (g.net fl).run.node < 0 then some (g.net fl).run.at_ else g.mkP k (cancel fl (g.net fl).cyc)) = some a := h
    split at h
    · rename_i hq; injection h with h; exact ⟨fl, h.symm, hq⟩
    · exact mk_run h
structure Gr.Tiny (g : Gr) : Prop where
  n : g.lat.length ≤ 40
  m : g.es.length ≤ 100
theorem Gr.Tiny.small {g : Gr} (h : g.Tiny) : g.Small := ⟨by have := h.n; omega, by have := h.m; omega⟩
theorem tiny_top {g : Gr} (h : g.OK) (ht : g.Tiny) (fl : List Int) (v : Nat) : 0 ≤ (g.net fl).run.A v ∧ (g.net fl).run.A v ≤ 10000000000 := by
  have h1 := net_top h fl v
  have h2 := net_len g fl
  have h3 : (((g.net fl).n + 1) * (g.net fl).as.length : Nat) ≤ 41 * 200 := Nat.mul_le_mul (by have := ht.n; show g.lat.length + 1 ≤ _; omega) (by have := ht.m; omega)
  generalize ((g.net fl).n + 1) * (g.net fl).as.length = q at h1 h3
  omega
theorem posB_of {g : Gr} {l : List Int} (hl : l.length = g.lat.length) (hf : Feas g (fn l)) (hb : ∀ v, v < g.lat.length → fn l v ≤ 1099511627776) : g.posB l = true := by
  unfold Gr.posB
  rw [decide_eq_true hl, all_getD.2 fun j hj => decide_eq_true ⟨hf.pos j (by omega), hb j (by omega)⟩, List.all_eq_true.2 fun i hi => decide_eq_true (hf.sl i (by simpa using hi))]
  rfl
theorem posB_iff {g : Gr} {l : List Int} (h : g.posB l = true) : l.length = g.lat.length ∧ Feas g (fn l) ∧ ∀ v, v < g.lat.length → fn l v ≤ 1099511627776 := by
  unfold Gr.posB at h
  simp only [Bool.and_eq_true, decide_eq_true_eq] at h
  obtain ⟨h1, h2, h3⟩ := h
  have h4 : ∀ v, v < g.lat.length → 0 ≤ fn l v ∧ fn l v ≤ 1099511627776 := fun v hv => by
    have := all_getD.1 h2 v (by omega)
    simpa [posOk] using this
  exact ⟨h1, ⟨fun v hv => (h4 v hv).1, fun i hi => by simpa using List.all_eq_true.1 h3 i (by simpa using hi)⟩, fun v hv => (h4 v hv).2⟩
theorem best_posB {g : Gr} (h : g.OK) (hs : g.short = false) (ht : g.Tiny) : g.posB g.best = true := by
  obtain ⟨k, hk, hb⟩ := best_mk h hs
  obtain ⟨fl, he, _⟩ := mk_run hk
  refine posB_of hb.len hb.feas fun v _ => ?_
  have := tiny_top h ht fl v
  rw [he]
  show (g.net fl).run.A v ≤ _
  omega
theorem low_posB {g : Gr} (h : g.OK) (hs : g.short = false) (ht : g.Tiny) : g.posB g.low = true := by
  have hb := low_spec h hs
  refine posB_of hb.len hb.feas fun v _ => ?_
  have := tiny_top h ht g.zeros v
  show (g.net g.zeros).run.A v ≤ _
  omega
theorem mem_pos {g : Gr} (hc : g.check = 0) {l : List Int} (h : g.posB l = true) : g.memory l = (g.planOf l, 0) := by unfold Gr.memory; rw [if_neg (by rw [hc]; decide), if_pos h]
theorem memory_err {g : Gr} {l : List Int} (h : (g.memory l).2 ≠ 0) : (g.memory l).1 = Pl.none := by
  unfold Gr.memory at *
  split
  · rfl
  · rename_i h1; rw [if_neg h1] at h
    split
    · rename_i h2; rw [if_pos h2] at h; exact absurd rfl h
    · rfl
theorem memory_ok {g : Gr} {l : List Int} (h : (g.memory l).2 = 0) : g.check = 0 ∧ g.posB l = true ∧ g.memory l = (g.planOf l, 0) := by
  unfold Gr.memory at *
  split at h
  · rename_i h1; exact absurd h h1
  · rename_i h1
    split at h
    · rename_i h2; rw [if_neg h1, if_pos h2]; exact ⟨Classical.not_not.1 h1, h2, rfl⟩
    · cases h
theorem mem_of {g : Gr} (hc : g.check = 0) {l : List Int} (h : g.posB l = true) {p : Pl} (hp : g.planOf l = p) : g.memory l = (p, 0) := by unfold Gr.memory; rw [if_neg (by rw [hc]; decide), if_pos h, hp]
theorem mem_no {g : Gr} (hc : g.check = 0) {l : List Int} (h : g.posB l = false) : g.memory l = (Pl.none, 230) := by unfold Gr.memory; rw [if_neg (by rw [hc]; decide), if_neg (by rw [h]; decide)]
theorem planOf_eq {g : Gr} {l del : List Int} {m : Int} (h1 : g.delTo l g.es.length = del) (h2 : g.memTo l g.es.length = m) : g.planOf l = ⟨l, del, m⟩ := by unfold Gr.planOf; rw [h1, h2]
theorem tiny_mem {g : Gr} (hok : g.OK) (ht : g.Tiny) {l : List Int} (h : AtOK g l) : -28147504381952000 ≤ g.memTo l g.es.length ∧ g.memTo l g.es.length ≤ 28147504381952000 := by
  have key : ∀ i, i ≤ g.es.length → -((i : Int) * 281475043819520) ≤ g.memTo l i ∧ g.memTo l i ≤ (i : Int) * 281475043819520 := by
    intro i
    induction i with
    | zero => intro _; exact ⟨by show _ ≤ (0 : Int); omega, by show (0 : Int) ≤ _; omega⟩
    | succ i ih =>
      intro hi
      have a := ih (by omega)
      have b := sl_bd hok h (i := i) (by omega)
      rw [memTo_succ]
      omega
  have := key _ (Nat.le_refl _)
  have := ht.m
  omega
theorem posB_atOK {g : Gr} {l : List Int} (h : g.posB l = true) : AtOK g l := atOK_of (posB_iff h).1 (by unfold Gr.posB at h; simp only [Bool.and_eq_true] at h; exact h.2.1)
theorem posB_low {g : Gr} (hok : g.OK) {l : List Int} (h : g.posB l = true) : Low40 g (fn l) := by
  obtain ⟨h1, h2, h3⟩ := posB_iff h
  refine ⟨h2, fun i hi => ?_⟩
  have he := Gr.edge_mem hok (e := g.ed i) (Gr.edge hok hi).1
  have a := h3 _ he.2.2.2.1
  have b := h2.pos _ he.2.1
  unfold Gr.sl
  omega
end Go.Proofs.Ytcidkahhfdcddaa


/- certify.Make. -/
namespace Go.Proofs.Ytcidkahhfdcddaa
open Go
set_option linter.unusedVariables false
set_option linter.unusedSimpArgs false
set_option maxRecDepth 10000
set_option maxHeartbeats 1000000

noncomputable def Gr.certMakeP (g : Gr) (p : Pl) : List Int × Int := if g.check ≠ 0 then ([], g.check) else if g.isPlan p = true then (if g.mem (fn g.best) = p.mem then (g.certF (fn p.at_), 0) else ([], 240)) else ([], 230)
abbrev Arc.dsR (a : Arc) : List D := [.v (.int .i64 a.e), .v (.int .i64 a.s), .v (.int .i64 a.f), .v (.int .i64 a.t), .v (.int .i64 (-a.by_))]
theorem arc_rowR {c : List Arc} {i : Nat} (hi : i < c.length) : (arcColsR c).map (Col.at · i) = (c.getD i default).dsR := by
  simp only [arcColsR, List.map_cons, List.map_nil, Col.at]
  rw [mapF hi, mapT hi, mapC hi, mapE hi, mapS hi]
theorem netC_s {g : Gr} {c : Nat → Int} {B : Int} {fl : List Int} {a : Arc} (ha : a ∈ (g.netC c B fl).as) : a.s = if a.b = true then -1 else 1 := by
  obtain ⟨_, _, h3, h4⟩ := netC_arc ha
  by_cases hb : a.b = true
  · rw [if_pos hb, (h4 hb).2]; rfl
  · rw [if_neg hb, h3 (by simpa using hb)]; rfl
theorem push1_s {n : Int} {fl : List Int} {a : Arc} (hs : a.s = if a.b = true then -1 else 1) : push1 n fl a = fl.set a.e.toNat (fl.getD a.e.toNat 0 + a.s * n) := by
  unfold push1
  rw [hs]
  split
  · rw [show fl.getD a.e.toNat 0 - n = fl.getD a.e.toNat 0 + -1 * n by omega]
  · rw [show fl.getD a.e.toNat 0 + n = fl.getD a.e.toNat 0 + 1 * n by omega]
/-- soundpost/certify.Make -/
theorem spec14 (g : Gr) (hz : g.Sz) (p : Pl) (hp : p.Sz) (ht : g.check = 0 → g.Tiny) : FnSpec Try.prog 14 [g.av, .d p.d] [] (.tup ([intsD (g.certMakeP p).1, .v (.int .i64 (g.certMakeP p).2)].map .d)) [] [] := by
  have hn1 := hz.n
  have hn2 := hz.m
  refine fnSpec_of (rs := [.tmp 4, .tmp 5]) Try.func14 rfl rfl (Nat.le_of_ble_eq_true rfl) (by simp [St.get]) fun E hk hn => ?_
  apply WPA.seq
  apply WPA.region
  · first | apply Trace.boxD 2 [] (.plain rfl) rfl rfl | apply Trace.box 2 [] (.plain rfl) rfl rfl rfl
    first | apply Trace.boxD 3 [] (.plain rfl) rfl rfl | apply Trace.box 3 [] (.plain rfl) rfl rfl rfl
    apply Trace.pu [] (.assign (.plain rfl))
    apply Trace.pu [] (.assign (.plain rfl))
    exact .nil _
  · exact keepOK_of hk hn rfl
  apply WPA.seq
  apply WPA.seq
  apply WPA.region
  · first | apply Trace.pu [_] (.loadAllD ty25 (.plain rfl) rfl (by simp)) | apply Trace.pu [_] (.loadLocD ty25 (.plain rfl) rfl (fun _ => by simp)) | apply Trace.pu [_] (.loadLoc ty25 (.plain rfl) rfl (fun _ => Nat.le_of_ble_eq_true rfl)) | apply Trace.pu [] (.loadRp ty25 (.plain rfl) (fun _ => by decide)) | apply Trace.pu [] (.loadRp ty25 (.plain rfl) (fun _ => Nat.le_of_ble_eq_true rfl)) | apply Trace.pu [_] (.loadCol ty25 (.plain rfl) rfl rfl (fun _ => by decide) (fun _ => by omega)) | apply Trace.pu [_] (.loadArr ty25 (.plain rfl) rfl)
    apply Trace.cu (callArgs0 (.cons (.plain rfl) .nil)) (spec26 g hz) en26
    apply Trace.pu [] (.assign (.plain rfl))
    exact .nil _
  · exact keepOK_of hk hn rfl
  apply WPA.seq
  apply WPA.region
  · apply Trace.pu [] (.move (.plain rfl))
    apply Trace.pu [] (.cmp (.plain rfl) (.plain rfl) rfl)
    exact .nil _
  · exact keepOK_of hk hn rfl
  refine WPA.cond rfl (fun hc1 => ?_) (fun hc1 => ?_)
  · have hC : g.check ≠ 0 := by simpa using hc1
    have hM : g.certMakeP p = ([], g.check) := by unfold Gr.certMakeP; rw [if_pos hC]
    apply WPA.seq
    apply WPA.region
    · apply Trace.pu [] (.move (.plain rfl))
      apply Trace.pu [] (.assign (.plain rfl))
      apply Trace.pu [] (.assign (.plain rfl))
      exact .nil _
    · exact keepOK_of hk hn rfl
    refine WPA.ghost (Ghost.slot (t := 4) (x := .d (.v (.slice none 0 0))) (y := .d (intsD [])) rfl den_emp) ?_
    apply WPA.ret
    refine ⟨.inr rfl, ⟨_, (.cons (.tmp rfl) (.cons (.tmp rfl) .nil)), ?_⟩, by simp [St.get]⟩
    rw [hM]; rfl
  · have hC : g.check = 0 := by simpa using hc1
    have hok := g.ok_of (check_formed hC)
    have hsh := check_short hC
    have ht := ht hC
    apply WPA.skip
    apply WPA.seq
    apply WPA.seq
    apply WPA.region
    · first | apply Trace.pu [_] (.loadAllD ty25 (.plain rfl) rfl (by simp)) | apply Trace.pu [_] (.loadLocD ty25 (.plain rfl) rfl (fun _ => by simp)) | apply Trace.pu [_] (.loadLoc ty25 (.plain rfl) rfl (fun _ => Nat.le_of_ble_eq_true rfl)) | apply Trace.pu [] (.loadRp ty25 (.plain rfl) (fun _ => by decide)) | apply Trace.pu [] (.loadRp ty25 (.plain rfl) (fun _ => Nat.le_of_ble_eq_true rfl)) | apply Trace.pu [_] (.loadCol ty25 (.plain rfl) rfl rfl (fun _ => by decide) (fun _ => by omega)) | apply Trace.pu [_] (.loadArr ty25 (.plain rfl) rfl)
      first | apply Trace.pu [_] (.loadAllD ty28 (.plain rfl) rfl (by simp)) | apply Trace.pu [_] (.loadLocD ty28 (.plain rfl) rfl (fun _ => by simp)) | apply Trace.pu [_] (.loadLoc ty28 (.plain rfl) rfl (fun _ => Nat.le_of_ble_eq_true rfl)) | apply Trace.pu [] (.loadRp ty28 (.plain rfl) (fun _ => by decide)) | apply Trace.pu [] (.loadRp ty28 (.plain rfl) (fun _ => Nat.le_of_ble_eq_true rfl)) | apply Trace.pu [_] (.loadCol ty28 (.plain rfl) rfl rfl (fun _ => by decide) (fun _ => by omega)) | apply Trace.pu [_] (.loadArr ty28 (.plain rfl) rfl)
      apply Trace.cu (callArgs0 (.cons (.plain rfl) (.cons (.plain rfl) .nil))) (spec31 g hz p hp) en31
      apply Trace.pu [] (.not (.plain rfl))
      exact .nil _
    · exact keepOK_of hk hn rfl
    refine WPA.cond rfl (fun hc2 => ?_) (fun hc2 => ?_)
    · have hB : ¬ g.isPlan p = true := by simpa using hc2
      have hM : g.certMakeP p = ([], 230) := by unfold Gr.certMakeP; rw [if_neg (by rw [hC]; decide), if_neg hB]
      apply WPA.seq
      apply WPA.region
      · apply Trace.pu [] (.assign (.plain rfl))
        apply Trace.pu [] (.assign (.plain rfl))
        exact .nil _
      · exact keepOK_of hk hn rfl
      refine WPA.ghost (Ghost.slot (t := 4) (x := .d (.v (.slice none 0 0))) (y := .d (intsD [])) rfl den_emp) ?_
      apply WPA.ret
      refine ⟨.inr rfl, ⟨_, (.cons (.tmp rfl) (.cons (.tmp rfl) .nil)), ?_⟩, by simp [St.get]⟩
      rw [hM]; rfl
    · have hP : g.isPlan p = true := by simpa using hc2
      have hM0 : g.certMakeP p = if g.mem (fn g.best) = p.mem then (g.certF (fn p.at_), 0) else ([], 240) := by unfold Gr.certMakeP; rw [if_neg (by rw [hC]; decide), if_pos hP]
      obtain ⟨_, hpos, hpe⟩ := isPlan_iff.1 hP
      have hpm : p.mem = g.memTo p.at_ g.es.length := congrArg Pl.mem hpe
      obtain ⟨pl, hpl⟩ : ∃ x, p.at_ = x := ⟨_, rfl⟩
      rw [hpl] at hpos hpm hM0
      rw [hpm] at hM0
      have hat := posB_atOK hpos
      have hlow := posB_low hok hpos
      obtain ⟨K, hK, hfE, hqE⟩ := certF_mk hok hsh hlow
      have hbE := quiet_bnd hok hsh hlow hfE hqE
      have hn40 := ht.n
      have hm100 := ht.m
      have hsmE : ∀ i, i < g.es.length → 0 ≤ fn (g.certF (fn pl)) i ∧ fn (g.certF (fn pl)) i ≤ 1048576 := fun i hi => by
        have a := hfE.pos i hi
        have b := quiet_small hok hsh hlow hfE hqE hi
        omega
      have hbdE := bnd_bd hok hsmE g.es.length (Nat.le_refl _)
      have hpd : p.ds = [intsD pl, intsD (g.delTo pl g.es.length), .v (.int .i64 (g.memTo pl g.es.length))] := by rw [hpe, hpl]; rfl
      have htm := tiny_mem hok ht hat
      refine WPA.weaken (T := [(sl 2, .av (.loc 2 0)), (sl 3, .av (.loc 3 0)), (bk 2, .blk (.data g.ds)), (bk 3, .blk (.data [intsD pl, intsD (g.delTo pl g.es.length), .v (.int .i64 (g.memTo pl g.es.length))]))]) ?_ (St.le_cons rfl (St.le_cons rfl (St.le_cons rfl (St.le_cons (congrArg (fun z => some (Cont.blk (.data z))) hpd) (St.le_nil _)))))
      apply WPA.skip
      apply WPA.seq
      apply WPA.region
      · first | apply Trace.pu [_] (.loadAllD ty25 (.plain rfl) rfl (by simp)) | apply Trace.pu [_] (.loadLocD ty25 (.plain rfl) rfl (fun _ => by simp)) | apply Trace.pu [_] (.loadLoc ty25 (.plain rfl) rfl (fun _ => Nat.le_of_ble_eq_true rfl)) | apply Trace.pu [] (.loadRp ty25 (.plain rfl) (fun _ => by decide)) | apply Trace.pu [] (.loadRp ty25 (.plain rfl) (fun _ => Nat.le_of_ble_eq_true rfl)) | apply Trace.pu [_] (.loadCol ty25 (.plain rfl) rfl rfl (fun _ => by decide) (fun _ => by omega)) | apply Trace.pu [_] (.loadArr ty25 (.plain rfl) rfl)
        apply Trace.cb [90] [] (callArgs0 (.cons (.plain rfl) .nil)) (spec32 hok) en32 .nil rfl rfl
        apply Trace.pu [] (.assign (.plain rfl))
        exact .nil _
      · exact keepOK_of hk hn rfl
      apply WPA.seq
      apply WPA.block
      refine WPA.loop (σ := Nat × List Int) (fun y => [(sl 2, .av (.loc 2 0)), (sl 3, .av (.loc 3 0)), (sl 4, .av (.own 90 g.es.length)), (bk 2, .blk (.data g.ds)), (bk 3, .blk (.data [intsD pl, intsD (g.delTo pl g.es.length), .v (.int .i64 (g.memTo pl g.es.length))])), (bk 90, .blk (.app 1 g.es.length [.ints .i64 (y.2)]))]) (fun y => g.mkC (fn pl) y.1 y.2 = some (g.certF (fn pl)) ∧ Flow g y.2) (fun y => y.1) (K, g.ws) (St.le_cons rfl (St.le_cons rfl (St.le_cons rfl (St.le_cons rfl (St.le_cons rfl (St.le_cons rfl (St.le_nil _))))))) ⟨hK, flow_ws hok⟩ fun y hy => ?_
      obtain ⟨k, fl⟩ := y
      obtain ⟨hmk, hf⟩ := hy
      have hf : Flow g fl := hf
      have hmk : g.mkC (fn pl) k fl = some (g.certF (fn pl)) := hmk
      have hfl := hf.len
      apply WPA.block
      apply WPA.seq
      apply WPA.region
      · first | apply Trace.pu [_] (.loadAllD ty25 (.plain rfl) rfl (by simp)) | apply Trace.pu [_] (.loadLocD ty25 (.plain rfl) rfl (fun _ => by simp)) | apply Trace.pu [_] (.loadLoc ty25 (.plain rfl) rfl (fun _ => Nat.le_of_ble_eq_true rfl)) | apply Trace.pu [] (.loadRp ty25 (.plain rfl) (fun _ => by decide)) | apply Trace.pu [] (.loadRp ty25 (.plain rfl) (fun _ => Nat.le_of_ble_eq_true rfl)) | apply Trace.pu [_] (.loadCol ty25 (.plain rfl) rfl rfl (fun _ => by decide) (fun _ => by omega)) | apply Trace.pu [_] (.loadArr ty25 (.plain rfl) rfl)
        first | apply Trace.pu [_] (.loadAllD ty28 (.plain rfl) rfl (by simp)) | apply Trace.pu [_] (.loadLocD ty28 (.plain rfl) rfl (fun _ => by simp)) | apply Trace.pu [_] (.loadLoc ty28 (.plain rfl) rfl (fun _ => Nat.le_of_ble_eq_true rfl)) | apply Trace.pu [] (.loadRp ty28 (.plain rfl) (fun _ => by decide)) | apply Trace.pu [] (.loadRp ty28 (.plain rfl) (fun _ => Nat.le_of_ble_eq_true rfl)) | apply Trace.pu [_] (.loadCol ty28 (.plain rfl) rfl rfl (fun _ => by decide) (fun _ => by omega)) | apply Trace.pu [_] (.loadArr ty28 (.plain rfl) rfl)
        apply Trace.pu [] (.move (.plain rfl))
        apply Trace.cb [] [bk 90] (callArgs0 (.cons (.plain rfl) (.cons (.plain rfl) (.cons (.plain rfl) .nil)))) ((spec33 hok hn40 hm100 hat hlow hf.len).as 0 90 rfl rfl rfl rfl rfl rfl rfl) en33 (.cons rfl .nil) rfl rfl
        apply Trace.pu [] (.assign (.plain rfl))
        exact .nil _
      · exact keepOK_of hk hn rfl
      apply WPA.seq
      apply WPA.seq
      rcases Decidable.em ((g.netD (fn pl) fl).run.node < 0) with hq | hq
      · have hSv : savC g (fn pl) fl = [] := if_pos hq
        have hE : fl = g.certF (fn pl) := by
          cases k with
          | zero => cases hmk
          | succ k =>
            have hmk : (if (g.netD (fn pl) fl).run.node < 0 then some fl else g.mkC (fn pl) k (g.csend fl (g.netD (fn pl) fl).cyc)) = some (g.certF (fn pl)) := hmk
            rw [if_pos hq] at hmk
            injection hmk
        refine WPA.weaken (T := [(sl 2, .av (.loc 2 0)), (sl 3, .av (.loc 3 0)), (sl 4, .av (.own 90 g.es.length)), (bk 2, .blk (.data g.ds)), (bk 3, .blk (.data [intsD pl, intsD (g.delTo pl g.es.length), .v (.int .i64 (g.memTo pl g.es.length))])), (sl 7, .av (.d (arcsRD []))), (bk 90, .blk (.app 1 g.es.length [.ints .i64 (fl)]))]) ?_ (St.le_cons rfl (St.le_cons rfl (St.le_cons rfl (St.le_cons rfl (St.le_cons rfl (St.le_cons (d_eq (by rw [hSv])) (St.le_cons rfl (St.le_nil _))))))))
        apply WPA.region
        · apply Trace.pu [] (.move (.plain rfl))
          apply Trace.pu [] (.len rfl Try.underlying57 (.plain rfl) rfl)
          apply Trace.pu [] (.cmp (.plain rfl) (.plain rfl) rfl)
          exact .nil _
        · exact keepOK_of hk hn rfl
        refine WPA.cond rfl (fun hc3 => ?_) (fun hc3 => ?_)
        · apply WPA.exit
          apply WPA.seq
          apply WPA.seq
          subst hE
          refine WPA.ghost (Ghost.freezeAs (t := 4) (l := 90) (g := fun k => [Col.at (.ints .i64 (g.certF (fn pl))) k]) rfl rfl (fun k hk => rfl)) ?_
          refine WPA.weaken (T := [(sl 2, .av (.loc 2 0)), (sl 3, .av (.loc 3 0)), (sl 4, .av (.d (intsD (g.certF (fn pl))))), (bk 2, .blk (.data g.ds)), (bk 3, .blk (.data [intsD pl, intsD (g.delTo pl g.es.length), .v (.int .i64 (g.memTo pl g.es.length))]))]) ?_ (St.le_cons rfl (St.le_cons rfl (St.le_cons (d_eq (intsD_len hfE.len).symm) (St.le_cons rfl (St.le_cons rfl (St.le_nil _))))))
          apply WPA.draw mixed
          · first | apply Trace.pu [_] (.loadAllD ty25 (.plain rfl) rfl (by simp)) | apply Trace.pu [_] (.loadLocD ty25 (.plain rfl) rfl (fun _ => by simp)) | apply Trace.pu [_] (.loadLoc ty25 (.plain rfl) rfl (fun _ => Nat.le_of_ble_eq_true rfl)) | apply Trace.pu [] (.loadRp ty25 (.plain rfl) (fun _ => by decide)) | apply Trace.pu [] (.loadRp ty25 (.plain rfl) (fun _ => Nat.le_of_ble_eq_true rfl)) | apply Trace.pu [_] (.loadCol ty25 (.plain rfl) rfl rfl (fun _ => by decide) (fun _ => by omega)) | apply Trace.pu [_] (.loadArr ty25 (.plain rfl) rfl)
            apply Trace.pu [] (.move (.plain rfl))
            apply Trace.cu (callArgs0 (.cons (.plain rfl) (.cons (.plain rfl) .nil))) (spec34 hok hfE.len hsmE) en34
            apply Trace.pu [] (.fieldAddr fl28_2 (.plain rfl) rfl)
            first | apply Trace.pu [_] (.loadLoc1D ty3 (.plain rfl) rfl rfl) | apply Trace.pu [_] (.loadLoc1 ty3 (.plain rfl) rfl rfl) | apply Trace.pu [] (.loadRp1 ty3 (.plain rfl) rfl) | apply Trace.pu [_] (.loadCol1 ty3 (.plain rfl) rfl rfl rfl (fun _ => by omega))
            apply Trace.pu [] (.cmp (.plain rfl) (.plain rfl) rfl)
            exact .nil _
          · rfl
          · exact keepOK_of hk hn rfl
          refine WPA.cond rfl (fun hc4 => ?_) (fun hc4 => ?_)
          · have hne : ¬ g.mem (fn g.best) = g.memTo pl g.es.length := by
              rw [← hbE]
              have h9 : (!decide (g.bnd (g.certF (fn pl)) g.es.length = g.memTo pl g.es.length)) = true := hc4
              simpa using h9
            rw [if_neg hne] at hM0
            apply WPA.seq
            apply WPA.region
            · apply Trace.pu [] (.assign (.plain rfl))
              apply Trace.pu [] (.assign (.plain rfl))
              exact .nil _
            · exact keepOK_of hk hn rfl
            refine WPA.ghost (Ghost.slot (t := 4) (x := .d (.v (.slice none 0 0))) (y := .d (intsD [])) rfl den_emp) ?_
            apply WPA.ret
            refine ⟨.inr rfl, ⟨_, (.cons (.tmp rfl) (.cons (.tmp rfl) .nil)), ?_⟩, by simp [St.get]⟩
            rw [hM0]; rfl
          · have hne : g.mem (fn g.best) = g.memTo pl g.es.length := by
              rw [← hbE]
              have h9 : (!decide (g.bnd (g.certF (fn pl)) g.es.length = g.memTo pl g.es.length)) = false := hc4
              simpa using h9
            rw [if_pos hne] at hM0
            apply WPA.skip
            apply WPA.seq
            apply WPA.region
            · apply Trace.pu [] (.move (.plain rfl))
              apply Trace.pu [] (.assign (.plain rfl))
              apply Trace.pu [] (.assign (.plain rfl))
              exact .nil _
            · exact keepOK_of hk hn rfl
            apply WPA.ret
            refine ⟨.inr rfl, ⟨_, (.cons (.tmp rfl) (.cons (.tmp rfl) .nil)), ?_⟩, by simp [St.get]⟩
            rw [hM0]; rfl
        · cases hc3
      · obtain ⟨k', hk', hmk'⟩ : ∃ k', k = k' + 1 ∧ g.mkC (fn pl) k' (g.csend fl (g.netD (fn pl) fl).cyc) = some (g.certF (fn pl)) := by
          cases k with
          | zero => cases hmk
          | succ k =>
            have hmk : (if (g.netD (fn pl) fl).run.node < 0 then some fl else g.mkC (fn pl) k (g.csend fl (g.netD (fn pl) fl).cyc)) = some (g.certF (fn pl)) := hmk
            rw [if_neg hq] at hmk
            exact ⟨k, rfl, hmk⟩
        have hSv : savC g (fn pl) fl = (g.netD (fn pl) fl).cyc := if_neg hq
        have hcy : NCyc (g.netD (fn pl) fl) (g.netD (fn pl) fl).cyc := ncyc_run (netD_ok hok hlow fl) hq
        obtain ⟨c, hc⟩ : ∃ c, (g.netD (fn pl) fl).cyc = c := ⟨_, rfl⟩
        rw [hc] at hcy hSv hmk'
        obtain ⟨hr1, hr2, hflow', _⟩ := csend_step hok hsh hf hcy
        have hcm := ncyc_map hcy
        have hcl : 0 < c.length ∧ c.length ≤ g.lat.length := hcy.len
        have hnn := hok.n
        refine WPA.weaken (T := [(sl 2, .av (.loc 2 0)), (sl 3, .av (.loc 3 0)), (sl 4, .av (.own 90 g.es.length)), (bk 2, .blk (.data g.ds)), (bk 3, .blk (.data [intsD pl, intsD (g.delTo pl g.es.length), .v (.int .i64 (g.memTo pl g.es.length))])), (sl 7, .av (.d (arcsRD c))), (bk 90, .blk (.app 1 g.es.length [.ints .i64 (fl)]))]) ?_ (St.le_cons rfl (St.le_cons rfl (St.le_cons rfl (St.le_cons rfl (St.le_cons rfl (St.le_cons (d_eq (by rw [hSv])) (St.le_cons rfl (St.le_nil _))))))))
        apply WPA.region
        · apply Trace.pu [] (.move (.plain rfl))
          apply Trace.pu [] (.len rfl Try.underlying57 (.plain rfl) rfl)
          apply Trace.pu [] (.cmp (.plain rfl) (.plain rfl) rfl)
          exact .nil _
        · exact keepOK_of hk hn rfl
        refine WPA.cond rfl (fun hc5 => ?_) (fun hc5 => ?_)
        · have : (c.length : Int) = 0 := of_decide_eq_true hc5
          omega
        · apply WPA.skip
          apply WPA.seq
          apply WPA.region
          · apply Trace.pu [] (.assign (.plain rfl))
            exact .nil _
          · exact keepOK_of hk hn rfl
          apply WPA.seq
          apply WPA.seq
          apply WPA.region
          · apply Trace.pu [] (.move (.plain rfl))
            apply Trace.pu [] (.len rfl Try.underlying57 (.plain rfl) rfl)
            apply Trace.pu [] (.move (.plain rfl))
            exact .nil _
          · exact keepOK_of hk hn rfl
          apply WPA.block
          refine WPA.loop (σ := Nat) (fun i => [(sl 2, .av (.loc 2 0)), (sl 3, .av (.loc 3 0)), (sl 4, .av (.own 90 g.es.length)), (bk 2, .blk (.data g.ds)), (bk 3, .blk (.data [intsD pl, intsD (g.delTo pl g.es.length), .v (.int .i64 (g.memTo pl g.es.length))])), (sl 7, .av (.d (arcsRD c))), (sl 8, .av (iv .i64 (roomTo fl c i))), (sl 31, .av (.d (arcsRD c))), (sl 32, .av (iv .i64 (c.length))), (sl 33, .av (iv .i64 (i))), (bk 90, .blk (.app 1 g.es.length [.ints .i64 (fl)]))]) (fun i => i ≤ c.length) (fun i => c.length - i) 0
            (St.le_cons rfl (St.le_cons rfl (St.le_cons rfl (St.le_cons rfl (St.le_cons rfl (St.le_cons rfl (St.le_cons rfl (St.le_cons rfl (St.le_cons rfl (St.le_cons rfl (St.le_cons rfl (St.le_nil _)))))))))))) (Nat.zero_le _) fun i hi => ?_
          apply WPA.seq
          apply WPA.region
          · apply Trace.pu [] (.cmp (.plain rfl) (.plain rfl) rfl)
            exact .nil _
          · exact keepOK_of hk hn rfl
          apply WPA.seq
          refine WPA.cond rfl (fun hc6 => ?_) (fun hc6 => ?_)
          · have hlt : i < c.length := by simpa using hc6
            obtain ⟨a, ha⟩ : ∃ a, c.getD i default = a := ⟨_, rfl⟩
            have ham : a ∈ (g.netD (fn pl) fl).as := ha ▸ hcy.mem i hlt
            obtain ⟨he1, he2, _, hbk⟩ := netC_arc ham
            have has := netC_s ham
            have hfb := hf.pos _ he1
            have hfb2 := flow_bd hok hsh ht.small hf he1
            unfold fn at hfb hfb2
            have hfl := hf.len
            have hrs := roomTo_succ (fl := fl) hlt
            rw [ha] at hrs
            apply WPA.skip
            apply WPA.seq
            apply WPA.block
            apply WPA.seq
            apply WPA.region
            · apply Trace.pu [] ((Pure.indexRows el57 (.plain rfl) (.plain rfl) (fun _ => ⟨by omega, by omega⟩)).to (y := .rp a.dsR) (by show AV.rp ((arcColsR c).map (Col.at · i)) = _; rw [arc_rowR hlt, ha]))
              first | apply Trace.pu [_] (.loadAllD ty60 (.plain rfl) rfl (by simp)) | apply Trace.pu [_] (.loadLocD ty60 (.plain rfl) rfl (fun _ => by simp)) | apply Trace.pu [_] (.loadLoc ty60 (.plain rfl) rfl (fun _ => Nat.le_of_ble_eq_true rfl)) | apply Trace.pu [] (.loadRp ty60 (.plain rfl) (fun _ => by decide)) | apply Trace.pu [] (.loadRp ty60 (.plain rfl) (fun _ => Nat.le_of_ble_eq_true rfl)) | apply Trace.pu [_] (.loadCol ty60 (.plain rfl) rfl rfl (fun _ => by decide) (fun _ => by omega)) | apply Trace.pu [_] (.loadArr ty60 (.plain rfl) rfl)
              apply Trace.alloc 10 [] (.data _) zo60 (cellsAs_data _) rfl
              first | apply Trace.storeD ty60 (.plain rfl) (.plain rfl) rfl rfl (by simp) (by simp [AV.oneB, single, intsD, rowsD]) (by simp) (spliceL_all (by simp)) | apply Trace.storeD ty60 (.plain rfl) (.plain rfl) rfl rfl (by simp) (by simp [AV.oneB, single, intsD, rowsD]) (by simp) rfl | apply Trace.storeDA ty60 (.plain rfl) (.plain rfl) rfl rfl (by simp) (by simp [AV.oneB, single]) (by simp) rfl | apply Trace.storeLoc ty60 (.plain rfl) (.plain rfl) rfl rfl (by simp) (by simp [AV.oneB, single]) (by simp) rfl | apply Trace.storeRow ty60 (.plain rfl) (.plain rfl) rfl rfl rfl rfl (by decide) (by simp [AV.oneB, single]) rfl (by omega)
              exact .nil _
            · exact keepOK_of hk hn rfl
            apply WPA.seq
            apply WPA.region
            · apply Trace.pu [] (.fieldAddr fl60_1 (.plain rfl) rfl)
              first | apply Trace.pu [_] (.loadLoc1D ty3 (.plain rfl) rfl rfl) | apply Trace.pu [_] (.loadLoc1 ty3 (.plain rfl) rfl rfl) | apply Trace.pu [] (.loadRp1 ty3 (.plain rfl) rfl) | apply Trace.pu [_] (.loadCol1 ty3 (.plain rfl) rfl rfl rfl (fun _ => by omega))
              apply Trace.pu [] (.cmp (.plain rfl) (.plain rfl) rfl)
              exact .nil _
            · exact keepOK_of hk hn rfl
            refine WPA.cond rfl (fun hc7 => ?_) (fun hc7 => ?_)
            · have hab : a.b = true := by
                have h9 : a.s < 0 := of_decide_eq_true hc7
                cases h8 : a.b with
                | true => rfl
                | false => rw [h8] at has; simp at has; omega
              rw [if_pos hab] at hrs
              apply WPA.region
              · apply Trace.pu [] (.move (.plain rfl))
                apply Trace.pu [] (.move (.plain rfl))
                apply Trace.pu [] (.fieldAddr fl60_0 (.plain rfl) rfl)
                first | apply Trace.pu [_] (.loadLoc1D ty3 (.plain rfl) rfl rfl) | apply Trace.pu [_] (.loadLoc1 ty3 (.plain rfl) rfl rfl) | apply Trace.pu [] (.loadRp1 ty3 (.plain rfl) rfl) | apply Trace.pu [_] (.loadCol1 ty3 (.plain rfl) rfl rfl rfl (fun _ => by omega))
                first | apply Trace.pu [] (.indexRows el22 (.plain rfl) (.plain rfl) (fun _ => ⟨by omega, by omega⟩)) | apply Trace.pu [] (.indexOwn el22 (.plain rfl) (.plain rfl) (fun _ => ⟨by omega, by omega⟩)) | apply Trace.pu [] (.indexSl el22 (.plain rfl) (.plain rfl) (fun _ => ⟨by omega, by omega⟩))
                first | apply Trace.pu [_] (.loadLoc1D ty3 (.plain rfl) rfl rfl) | apply Trace.pu [_] (.loadLoc1 ty3 (.plain rfl) rfl rfl) | apply Trace.pu [] (.loadRp1 ty3 (.plain rfl) rfl) | apply Trace.pu [_] (.loadCol1 ty3 (.plain rfl) rfl rfl rfl (fun _ => by omega))
                apply Trace.pu [] (.min2 (.plain rfl) (.plain rfl))
                apply Trace.pu [] (.assign (.plain rfl))
                exact .nil _
              · exact keepOK_of hk hn rfl
              apply WPA.region
              · apply Trace.pu [] (.arith (.plain rfl) (.plain rfl) rfl (fun _ => bd64 (by omega)))
                apply Trace.pu [] (.move (.plain rfl))
                exact .nil _
              · exact keepOK_of hk hn rfl
              exact ⟨i + 1, by omega, by omega, St.le_cons rfl (St.le_cons rfl (St.le_cons rfl (St.le_cons rfl (St.le_cons rfl (St.le_cons rfl (St.le_cons (slI hrs.symm) (St.le_cons rfl (St.le_cons rfl (St.le_cons (slI (by omega)) (St.le_cons rfl (St.le_nil _)))))))))))⟩
            · have hab : ¬ a.b = true := fun h8 => by
                have h9 : ¬ a.s < 0 := of_decide_eq_false hc7
                rw [h8] at has; simp at has; omega
              rw [if_neg hab] at hrs
              apply WPA.skip
              apply WPA.region
              · apply Trace.pu [] (.arith (.plain rfl) (.plain rfl) rfl (fun _ => bd64 (by omega)))
                apply Trace.pu [] (.move (.plain rfl))
                exact .nil _
              · exact keepOK_of hk hn rfl
              exact ⟨i + 1, by omega, by omega, St.le_cons rfl (St.le_cons rfl (St.le_cons rfl (St.le_cons rfl (St.le_cons rfl (St.le_cons rfl (St.le_cons (slI hrs.symm) (St.le_cons rfl (St.le_cons rfl (St.le_cons (slI (by omega)) (St.le_cons rfl (St.le_nil _)))))))))))⟩
          · have hin : i = c.length := by
              have : ¬ ((i : Int) < c.length) := by simpa using hc6
              omega
            subst hin
            apply WPA.exit
            apply WPA.seq
            apply WPA.region
            · apply Trace.pu [] (.move (.plain rfl))
              apply Trace.pu [] (.len rfl Try.underlying57 (.plain rfl) rfl)
              apply Trace.pu [] (.move (.plain rfl))
              exact .nil _
            · exact keepOK_of hk hn rfl
            apply WPA.block
            refine WPA.loop (σ := Nat) (fun i => [(sl 2, .av (.loc 2 0)), (sl 3, .av (.loc 3 0)), (sl 4, .av (.own 90 g.es.length)), (bk 2, .blk (.data g.ds)), (bk 3, .blk (.data [intsD pl, intsD (g.delTo pl g.es.length), .v (.int .i64 (g.memTo pl g.es.length))])), (sl 8, .av (iv .i64 (roomTo fl c c.length))), (sl 48, .av (.d (arcsRD c))), (sl 49, .av (iv .i64 (c.length))), (sl 50, .av (iv .i64 (i))), (bk 90, .blk (.app 1 g.es.length [.ints .i64 (pushTo (roomTo fl c c.length) fl c i)]))]) (fun i => i ≤ c.length) (fun i => c.length - i) 0
              (St.le_cons rfl (St.le_cons rfl (St.le_cons rfl (St.le_cons rfl (St.le_cons rfl (St.le_cons rfl (St.le_cons rfl (St.le_cons rfl (St.le_cons rfl (St.le_cons rfl (St.le_nil _))))))))))) (Nat.zero_le _) fun i hi => ?_
            apply WPA.seq
            apply WPA.region
            · apply Trace.pu [] (.cmp (.plain rfl) (.plain rfl) rfl)
              exact .nil _
            · exact keepOK_of hk hn rfl
            apply WPA.seq
            refine WPA.cond rfl (fun hc8 => ?_) (fun hc8 => ?_)
            · have hlt : i < c.length := by simpa using hc8
              obtain ⟨a, ha⟩ : ∃ a, c.getD i default = a := ⟨_, rfl⟩
              have ham : a ∈ (g.netD (fn pl) fl).as := ha ▸ hcy.mem i hlt
              obtain ⟨he1, he2, _, hbk⟩ := netC_arc ham
              have has := netC_s ham
              have hfb := hf.pos _ he1
              have hfb2 := flow_bd hok hsh ht.small hf he1
              unfold fn at hfb hfb2
              have hfl := hf.len
              have hpi := pinv hcm hf.len (n := roomTo fl c c.length) (Int.le_of_lt hr1) i (by rw [List.length_map]; exact hi)
              have hp1 := hpi.lo _ he1
              have hp2 := hpi.hi _ he1
              have hpl2 := hpi.len
              unfold fn at hp1 hp2
              rw [push_map hcy _ i hi] at hp1 hp2 hpl2
              have hps := pushTo_succ (n := roomTo fl c c.length) (fl := fl) hlt
              rw [ha, push1_s has] at hps
              have hsr : -1048576 ≤ a.s * roomTo fl c c.length ∧ a.s * roomTo fl c c.length ≤ 1048576 := by
                rw [has]; split <;> omega
              apply WPA.skip
              apply WPA.seq
              apply WPA.block
              apply WPA.seq
              apply WPA.region
              · apply Trace.pu [] ((Pure.indexRows el57 (.plain rfl) (.plain rfl) (fun _ => ⟨by omega, by omega⟩)).to (y := .rp a.dsR) (by show AV.rp ((arcColsR c).map (Col.at · i)) = _; rw [arc_rowR hlt, ha]))
                first | apply Trace.pu [_] (.loadAllD ty60 (.plain rfl) rfl (by simp)) | apply Trace.pu [_] (.loadLocD ty60 (.plain rfl) rfl (fun _ => by simp)) | apply Trace.pu [_] (.loadLoc ty60 (.plain rfl) rfl (fun _ => Nat.le_of_ble_eq_true rfl)) | apply Trace.pu [] (.loadRp ty60 (.plain rfl) (fun _ => by decide)) | apply Trace.pu [] (.loadRp ty60 (.plain rfl) (fun _ => Nat.le_of_ble_eq_true rfl)) | apply Trace.pu [_] (.loadCol ty60 (.plain rfl) rfl rfl (fun _ => by decide) (fun _ => by omega)) | apply Trace.pu [_] (.loadArr ty60 (.plain rfl) rfl)
                apply Trace.alloc 12 [] (.data _) zo60 (cellsAs_data _) rfl
                first | apply Trace.storeD ty60 (.plain rfl) (.plain rfl) rfl rfl (by simp) (by simp [AV.oneB, single, intsD, rowsD]) (by simp) (spliceL_all (by simp)) | apply Trace.storeD ty60 (.plain rfl) (.plain rfl) rfl rfl (by simp) (by simp [AV.oneB, single, intsD, rowsD]) (by simp) rfl | apply Trace.storeDA ty60 (.plain rfl) (.plain rfl) rfl rfl (by simp) (by simp [AV.oneB, single]) (by simp) rfl | apply Trace.storeLoc ty60 (.plain rfl) (.plain rfl) rfl rfl (by simp) (by simp [AV.oneB, single]) (by simp) rfl | apply Trace.storeRow ty60 (.plain rfl) (.plain rfl) rfl rfl rfl rfl (by decide) (by simp [AV.oneB, single]) rfl (by omega)
                exact .nil _
              · exact keepOK_of hk hn rfl
              apply WPA.draw mixed
              · apply Trace.pu [] (.move (.plain rfl))
                apply Trace.pu [] (.fieldAddr fl60_0 (.plain rfl) rfl)
                first | apply Trace.pu [_] (.loadLoc1D ty3 (.plain rfl) rfl rfl) | apply Trace.pu [_] (.loadLoc1 ty3 (.plain rfl) rfl rfl) | apply Trace.pu [] (.loadRp1 ty3 (.plain rfl) rfl) | apply Trace.pu [_] (.loadCol1 ty3 (.plain rfl) rfl rfl rfl (fun _ => by omega))
                first | apply Trace.pu [] (.indexRows el22 (.plain rfl) (.plain rfl) (fun _ => ⟨by omega, by omega⟩)) | apply Trace.pu [] (.indexOwn el22 (.plain rfl) (.plain rfl) (fun _ => ⟨by omega, by omega⟩)) | apply Trace.pu [] (.indexSl el22 (.plain rfl) (.plain rfl) (fun _ => ⟨by omega, by omega⟩))
                first | apply Trace.pu [_] (.loadLoc1D ty3 (.plain rfl) rfl rfl) | apply Trace.pu [_] (.loadLoc1 ty3 (.plain rfl) rfl rfl) | apply Trace.pu [] (.loadRp1 ty3 (.plain rfl) rfl) | apply Trace.pu [_] (.loadCol1 ty3 (.plain rfl) rfl rfl rfl (fun _ => by omega))
                apply Trace.pu [] (.fieldAddr fl60_1 (.plain rfl) rfl)
                first | apply Trace.pu [_] (.loadLoc1D ty3 (.plain rfl) rfl rfl) | apply Trace.pu [_] (.loadLoc1 ty3 (.plain rfl) rfl rfl) | apply Trace.pu [] (.loadRp1 ty3 (.plain rfl) rfl) | apply Trace.pu [_] (.loadCol1 ty3 (.plain rfl) rfl rfl rfl (fun _ => by omega))
                apply Trace.pu [] (.move (.plain rfl))
                apply Trace.pu [] (.arith (.plain rfl) (.plain rfl) rfl (fun _ => bd64 (by omega)))
                apply Trace.pu [] (.arith (.plain rfl) (.plain rfl) rfl (fun _ => bd64 (by omega)))
                first | apply Trace.pu [] (.indexRows el22 (.plain rfl) (.plain rfl) (fun _ => ⟨by omega, by omega⟩)) | apply Trace.pu [] (.indexOwn el22 (.plain rfl) (.plain rfl) (fun _ => ⟨by omega, by omega⟩)) | apply Trace.pu [] (.indexSl el22 (.plain rfl) (.plain rfl) (fun _ => ⟨by omega, by omega⟩))
                first | apply Trace.storeD ty3 (.plain rfl) (.plain rfl) rfl rfl rfl (by simp [AV.oneB, single]) (Nat.le_of_ble_eq_true rfl) rfl | apply Trace.storeDA ty3 (.plain rfl) (.plain rfl) rfl rfl rfl (by simp [AV.oneB, single]) (Nat.le_of_ble_eq_true rfl) rfl | apply Trace.storeLoc ty3 (.plain rfl) (.plain rfl) rfl rfl rfl (by simp [AV.oneB, single]) (Nat.le_of_ble_eq_true rfl) rfl | apply Trace.storeRow ty3 (.plain rfl) (.plain rfl) rfl rfl rfl rfl (by decide) (by simp [AV.oneB, single]) rfl (by omega)
                exact .nil _
              · rfl
              · exact keepOK_of hk hn rfl
              apply WPA.region
              · apply Trace.pu [] (.arith (.plain rfl) (.plain rfl) rfl (fun _ => bd64 (by omega)))
                apply Trace.pu [] (.move (.plain rfl))
                exact .nil _
              · exact keepOK_of hk hn rfl
              exact ⟨i + 1, by omega, by omega, St.le_cons rfl (St.le_cons rfl (St.le_cons rfl (St.le_cons rfl (St.le_cons rfl (St.le_cons rfl (St.le_cons rfl (St.le_cons rfl (St.le_cons (slI (by omega)) (St.le_cons (app_eq64 hps.symm) (St.le_nil _))))))))))⟩
            · have hin : i = c.length := by
                have : ¬ ((i : Int) < c.length) := by simpa using hc8
                omega
              subst hin
              apply WPA.exit
              exact ⟨(k', g.csend fl c), ⟨hmk', hflow'⟩, by show k' < k; omega, St.le_cons rfl (St.le_cons rfl (St.le_cons rfl (St.le_cons rfl (St.le_cons rfl (St.le_cons rfl (St.le_nil _))))))⟩

end Go.Proofs.Ytcidkahhfdcddaa


/- The chapter's examples of certify. -/
namespace Go.Proofs.Ytcidkahhfdcddaa
open Go
set_option linter.unusedVariables false
set_option linter.unusedSimpArgs false
set_option maxRecDepth 100000
set_option maxHeartbeats 1000000

def Gr.few24 (g : Gr) : Bool := decide (g.lat.length ≤ 8) && decide (g.es.length ≤ 12)
theorem few24_tiny {g : Gr} (h : g.few24 = true) : g.lat.length ≤ 8 ∧ g.es.length ≤ 12 ∧ g.Tiny := by
  unfold Gr.few24 at h
  simp only [Bool.and_eq_true, decide_eq_true_eq] at h
  exact ⟨h.1, h.2, ⟨by omega, by omega⟩⟩
def C1 : Gr := ⟨[0, 3, 0], [⟨0, 1, 1, 0⟩, ⟨1, 2, 1, 0⟩, ⟨0, 2, 1, 0⟩]⟩
def C2 : Gr := ⟨[0], []⟩
def C3 : Gr := ⟨[], []⟩
def cP : Pl := ⟨[0, 0, 3], [0, 0, 3], 3⟩
def cQ : Pl := ⟨[0, 1, 4], [1, 0, 4], 5⟩
theorem boN {g : Gr} (hz : g.Sz) {fl : List Int} (hfl : fl.length ≤ 4611686018427387904) {a c : Int} (h : g.boundP fl = (a, c)) : FnSpec Try.prog 16 [g.av, .d (intsD fl)] [] (.tup ([.v (.int .i64 a), .v (.int .i64 c)].map .d)) [] [] := by
  have := spec16 g hz fl hfl
  rw [h] at this
  exact this
theorem ckN {g : Gr} (hz : g.Sz) {p : Pl} (hp : p.Sz) {fl : List Int} (hfl : fl.length ≤ 4611686018427387904) {a : Bool} {c : Int} (h : g.certP p fl = (a, c)) : FnSpec Try.prog 15 [g.av, .d p.d, .d (intsD fl)] [] (.tup ([.v (.bool a), .v (.int .i64 c)].map .d)) [] [] := by
  have := spec15 g hz p hp fl hfl
  rw [h] at this
  exact this
theorem mcN {g : Gr} (hz : g.Sz) {p : Pl} (hp : p.Sz) (ht : g.check = 0 → g.Tiny) {l : List Int} {c : Int} (h : g.certMakeP p = (l, c)) : FnSpec Try.prog 14 [g.av, .d p.d] [] (.tup ([intsD l, .v (.int .i64 c)].map .d)) [] [] := by
  have := spec14 g hz p hp ht
  rw [h] at this
  exact this
theorem mc_bnd {g : Gr} (hc : g.check = 0) {p : Pl} (hp : g.isPlan p = true) {k : Nat} {l : List Int} (h : g.mkC (fn p.at_) k g.ws = some l) : g.mem (fn g.best) = g.bnd l g.es.length ∧ g.certF (fn p.at_) = l := by
  have hok := g.ok_of (check_formed hc)
  have hlow := posB_low hok (isPlan_iff.1 hp).2.1
  obtain ⟨K, hK, hf, hq⟩ := certF_mk hok (check_short hc) hlow
  have e := certF_of h
  rw [← quiet_bnd hok (check_short hc) hlow hf hq, e]
  exact ⟨rfl, rfl⟩
theorem mc_yes {g : Gr} (hc : g.check = 0) {p : Pl} (hp : g.isPlan p = true) {k : Nat} {l : List Int} (h : g.mkC (fn p.at_) k g.ws = some l) (hb : g.bnd l g.es.length = p.mem) : g.certMakeP p = (l, 0) := by
  obtain ⟨a, b⟩ := mc_bnd hc hp h
  unfold Gr.certMakeP
  rw [if_neg (by rw [hc]; decide), if_pos hp, if_pos (by rw [a, hb]), b]
theorem mc_no {g : Gr} (hc : g.check = 0) {p : Pl} (hp : g.isPlan p = true) {k : Nat} {l : List Int} (h : g.mkC (fn p.at_) k g.ws = some l) (hb : g.bnd l g.es.length ≠ p.mem) : g.certMakeP p = ([], 240) := by
  obtain ⟨a, b⟩ := mc_bnd hc hp h
  unfold Gr.certMakeP
  rw [if_neg (by rw [hc]; decide), if_pos hp, if_neg (by rw [a]; exact hb)]
theorem C1_sz : C1.Sz := sz_of (by decide +kernel)
theorem C2_sz : C2.Sz := sz_of (by decide +kernel)
theorem C3_sz : C3.Sz := sz_of (by decide +kernel)
theorem C1_ok : C1.check = 0 := by decide +kernel
theorem c24B1 : FnSpec Try.prog 16 [C1.av, .d (intsD [1, 1, 1])] [] (.tup ([.v (.int .i64 0), .v (.int .i64 0)].map .d)) [] [] := boN C1_sz (by decide) (by decide +kernel)
theorem c24B2 : FnSpec Try.prog 16 [C1.av, .d (intsD [2, 2, 0])] [] (.tup ([.v (.int .i64 3), .v (.int .i64 0)].map .d)) [] [] := boN C1_sz (by decide) (by decide +kernel)
theorem c24B3 : FnSpec Try.prog 16 [C1.av, .d (intsD [2, 1, 1])] [] (.tup ([.v (.int .i64 0), .v (.int .i64 240)].map .d)) [] [] := boN C1_sz (by decide) (by decide +kernel)
theorem c24B4 : FnSpec Try.prog 16 [C3.av, .d (intsD [])] [] (.tup ([.v (.int .i64 0), .v (.int .i64 0)].map .d)) [] [] := boN C3_sz (by decide) (by decide +kernel)
theorem c24K1 : FnSpec Try.prog 15 [C1.av, .d cP.d, .d (intsD [2, 2, 0])] [] (.tup ([.v (.bool true), .v (.int .i64 0)].map .d)) [] [] := ckN C1_sz ⟨by decide, by decide⟩ (by decide) (by decide +kernel)
theorem c24K2 : FnSpec Try.prog 15 [C1.av, .d cP.d, .d (intsD [1, 1, 1])] [] (.tup ([.v (.bool false), .v (.int .i64 0)].map .d)) [] [] := ckN C1_sz ⟨by decide, by decide⟩ (by decide) (by decide +kernel)
theorem c24K3 : FnSpec Try.prog 15 [C2.av, .d Pl.none.d, .d (intsD [])] [] (.tup ([.v (.bool false), .v (.int .i64 230)].map .d)) [] [] := ckN C2_sz ⟨by decide, by decide⟩ (by decide) (by decide +kernel)
theorem c24M1 : FnSpec Try.prog 14 [C1.av, .d cP.d] [] (.tup ([intsD [2, 2, 0], .v (.int .i64 0)].map .d)) [] [] := mcN C1_sz ⟨by decide, by decide⟩ (fun _ => ⟨by decide, by decide⟩) (mc_yes C1_ok (by decide +kernel) (k := 10) (by decide +kernel) (by decide +kernel))
theorem c24M2 : FnSpec Try.prog 14 [C1.av, .d cQ.d] [] (.tup ([intsD [], .v (.int .i64 240)].map .d)) [] [] := mcN C1_sz ⟨by decide, by decide⟩ (fun _ => ⟨by decide, by decide⟩) (mc_no C1_ok (by decide +kernel) (k := 10) (l := [2, 2, 0]) (by decide +kernel) (by decide +kernel))
/-- soundpost/soundpostlaw24.same -/
theorem spec40 (a b : List Int) (ha : a.length ≤ 4611686018427387904) (hb : b.length ≤ 4611686018427387904) : FnSpec Try.prog 40 [.d (intsD a), .d (intsD b)] [] (bv (decide (a = b))) [] [] := by
  refine fnSpec_of (rs := [.tmp 4]) Try.func40 rfl rfl (Nat.le_of_ble_eq_true rfl) (by simp [St.get]) fun E hk hn => ?_
  apply WPA.seq
  apply WPA.region
  · apply Trace.pu [] (.assign (.plain rfl))
    exact .nil _
  · exact keepOK_of hk hn rfl
  apply WPA.seq
  apply WPA.seq
  apply WPA.region
  · apply Trace.pu [] (.move (.plain rfl))
    apply Trace.pu [] (.len rfl Try.underlying22 (.plain rfl) rfl)
    apply Trace.pu [] (.move (.plain rfl))
    apply Trace.pu [] (.len rfl Try.underlying22 (.plain rfl) rfl)
    apply Trace.pu [] (.cmp (.plain rfl) (.plain rfl) rfl)
    exact .nil _
  · exact keepOK_of hk hn rfl
  refine WPA.cond rfl (fun hc1 => ?_) (fun hc1 => ?_)
  · apply WPA.seq
    apply WPA.region
    · apply Trace.pu [] (.assign (.plain rfl))
      exact .nil _
    · exact keepOK_of hk hn rfl
    apply WPA.ret
    refine ⟨.inr rfl, ⟨_, (.cons (.tmp rfl) .nil), ?_⟩, by simp [St.get]⟩
    have hl : a.length ≠ b.length := by
      have : ((a.length : Int) ≠ b.length) := by simpa using hc1
      omega
    rw [decide_eq_false (fun e => hl (congrArg List.length e))]
    rfl
  · have hl : a.length = b.length := by
      have : ¬ ((a.length : Int) ≠ b.length) := by simpa using hc1
      omega
    apply WPA.skip
    apply WPA.seq
    apply WPA.seq
    apply WPA.region
    · apply Trace.pu [] (.move (.plain rfl))
      apply Trace.pu [] (.len rfl Try.underlying22 (.plain rfl) rfl)
      apply Trace.pu [] (.move (.plain rfl))
      exact .nil _
    · exact keepOK_of hk hn rfl
    apply WPA.block
    refine WPA.loop (σ := Nat) (fun i => [(sl 0, .av (.d (intsD a))), (sl 1, .av (.d (intsD b))), (sl 12, .av (iv .i64 (a.length))), (sl 13, .av (iv .i64 (i)))]) (fun i => i ≤ a.length ∧ ∀ j, j < i → a.getD j 0 = b.getD j 0) (fun i => a.length - i) 0
      (St.le_cons rfl (St.le_cons rfl (St.le_cons rfl (St.le_cons rfl (St.le_nil _))))) ⟨Nat.zero_le _, fun j h => by omega⟩ fun i hi => ?_
    apply WPA.seq
    apply WPA.region
    · apply Trace.pu [] (.cmp (.plain rfl) (.plain rfl) rfl)
      exact .nil _
    · exact keepOK_of hk hn rfl
    apply WPA.seq
    refine WPA.cond rfl (fun hc2 => ?_) (fun hc2 => ?_)
    · have hlt : i < a.length := by simpa using hc2
      have hbn : b.length = a.length := hl.symm
      apply WPA.skip
      apply WPA.seq
      apply WPA.block
      apply WPA.seq
      apply WPA.region
      · apply Trace.pu [] (.move (.plain rfl))
        apply Trace.pu [] (.assign (.plain rfl))
        exact .nil _
      · exact keepOK_of hk hn rfl
      apply WPA.seq
      apply WPA.draw mixed
      · apply Trace.pu [] (.move (.plain rfl))
        apply Trace.pu [] (.move (.plain rfl))
        first | apply Trace.pu [] (.indexRows el22 (.plain rfl) (.plain rfl) (fun _ => ⟨by omega, by omega⟩)) | apply Trace.pu [] (.indexOwn el22 (.plain rfl) (.plain rfl) (fun _ => ⟨by omega, by omega⟩)) | apply Trace.pu [] (.indexSl el22 (.plain rfl) (.plain rfl) (fun _ => ⟨by omega, by omega⟩))
        first | apply Trace.pu [_] (.loadLoc1D ty3 (.plain rfl) rfl rfl) | apply Trace.pu [_] (.loadLoc1 ty3 (.plain rfl) rfl rfl) | apply Trace.pu [] (.loadRp1 ty3 (.plain rfl) rfl) | apply Trace.pu [_] (.loadCol1 ty3 (.plain rfl) rfl rfl rfl (fun _ => by omega))
        apply Trace.pu [] (.move (.plain rfl))
        apply Trace.pu [] (.move (.plain rfl))
        first | apply Trace.pu [] (.indexRows el22 (.plain rfl) (.plain rfl) (fun _ => ⟨by omega, by omega⟩)) | apply Trace.pu [] (.indexOwn el22 (.plain rfl) (.plain rfl) (fun _ => ⟨by omega, by omega⟩)) | apply Trace.pu [] (.indexSl el22 (.plain rfl) (.plain rfl) (fun _ => ⟨by omega, by omega⟩))
        first | apply Trace.pu [_] (.loadLoc1D ty3 (.plain rfl) rfl rfl) | apply Trace.pu [_] (.loadLoc1 ty3 (.plain rfl) rfl rfl) | apply Trace.pu [] (.loadRp1 ty3 (.plain rfl) rfl) | apply Trace.pu [_] (.loadCol1 ty3 (.plain rfl) rfl rfl rfl (fun _ => by omega))
        apply Trace.pu [] (.cmp (.plain rfl) (.plain rfl) rfl)
        exact .nil _
      · rfl
      · exact keepOK_of hk hn rfl
      refine WPA.cond rfl (fun hc3 => ?_) (fun hc3 => ?_)
      · apply WPA.seq
        apply WPA.region
        · apply Trace.pu [] (.assign (.plain rfl))
          exact .nil _
        · exact keepOK_of hk hn rfl
        apply WPA.ret
        refine ⟨.inr rfl, ⟨_, (.cons (.tmp rfl) .nil), ?_⟩, by simp [St.get]⟩
        have hx : ¬ (a.getD i 0 = b.getD i 0) := by simpa using hc3
        rw [decide_eq_false (fun e => hx (by rw [e]))]
        rfl
      · apply WPA.skip
        apply WPA.region
        · apply Trace.pu [] (.arith (.plain rfl) (.plain rfl) rfl (fun _ => bd64 (by omega)))
          apply Trace.pu [] (.move (.plain rfl))
          exact .nil _
        · exact keepOK_of hk hn rfl
        have hx : a.getD i 0 = b.getD i 0 := by simpa using hc3
        exact ⟨i + 1, ⟨by omega, fun j h => by
          by_cases hj : j = i
          · rw [hj]; exact hx
          · exact hi.2 j (by omega)⟩, by omega, St.le_cons rfl (St.le_cons rfl (St.le_cons rfl (St.le_cons (slI (by omega)) (St.le_nil _))))⟩
    · apply WPA.exit
      apply WPA.seq
      apply WPA.region
      · apply Trace.pu [] (.assign (.plain rfl))
        exact .nil _
      · exact keepOK_of hk hn rfl
      apply WPA.ret
      refine ⟨.inr rfl, ⟨_, (.cons (.tmp rfl) .nil), ?_⟩, by simp [St.get]⟩
      have hn : a.length ≤ i := by
        have : ¬ ((i : Int) < a.length) := by simpa using hc2
        omega
      rw [decide_eq_true (eq_fn hl fun j hj => hi.2 j (by omega))]
      rfl

theorem sm24 {a b : List Int} (ha : a.length ≤ 1000) (h : a = b) : FnSpec Try.prog 40 [.d (intsD a), .d (intsD b)] [] (bv true) [] [] := by
  have := spec40 a b (by omega) (by rw [← h]; omega)
  rwa [decide_eq_true h] at this
/-- soundpost/soundpostref24.Few -/
theorem spec20 (g : Gr) (hz : g.Sz) : FnSpec Try.prog 20 [g.av] [] (bv g.few24) [] [] := by
  have hn1 := hz.n
  have hn2 := hz.m
  refine fnSpec_of (rs := [.tmp 2]) Try.func20 rfl rfl (Nat.le_of_ble_eq_true rfl) (by simp [St.get]) fun E hk hn => ?_
  apply WPA.seq
  apply WPA.region
  · first | apply Trace.boxD 1 [] (.plain rfl) rfl rfl | apply Trace.box 1 [] (.plain rfl) rfl rfl rfl
    apply Trace.pu [] (.assign (.plain rfl))
    exact .nil _
  · exact keepOK_of hk hn rfl
  apply WPA.seq
  apply WPA.region
  · apply Trace.pu [] (.fieldAddr fl25_0 (.plain rfl) rfl)
    first | apply Trace.pu [_] (.loadLoc1D ty22 (.plain rfl) rfl rfl) | apply Trace.pu [_] (.loadLoc1 ty22 (.plain rfl) rfl rfl) | apply Trace.pu [] (.loadRp1 ty22 (.plain rfl) rfl) | apply Trace.pu [_] (.loadCol1 ty22 (.plain rfl) rfl rfl rfl (fun _ => by omega))
    apply Trace.pu [] (.len rfl Try.underlying22 (.plain rfl) rfl)
    apply Trace.pu [] (.cmp (.plain rfl) (.plain rfl) rfl)
    apply Trace.pu [] (.move (.plain rfl))
    apply Trace.pg [] rfl (.fieldAddr fl25_1 (.plain rfl) rfl)
    first | apply Trace.pg [_] rfl (.loadLoc1D ty23 (.gd rfl (fun h => h)) rfl rfl) | apply Trace.pg [_] rfl (.loadLoc1 ty23 (.gd rfl (fun h => h)) rfl rfl) | apply Trace.pg [] rfl (.loadRp1 ty23 (.gd rfl (fun h => h)) rfl) | apply Trace.pg [_] rfl (.loadCol1 ty23 (.gd rfl (fun h => h)) rfl rfl rfl (fun _ => by omega))
    apply Trace.pg [] rfl (.len rfl Try.underlying23 (.gd rfl (fun h => h)) rfl)
    apply Trace.pg [] rfl (.cmp (.gd rfl (fun h => h)) (.plain rfl) rfl)
    apply Trace.pu [] (.pick (.plain rfl) (.gd rfl (by simp)) (.plain rfl))
    apply Trace.pu [] (.assign (.plain rfl))
    exact .nil _
  · exact keepOK_of hk hn rfl
  apply WPA.ret
  refine ⟨.inr rfl, ⟨_, (.cons (.tmp rfl) .nil), ?_⟩, by simp [St.get]⟩
  have e : g.few24 = (bif decide ((g.lat.length : Int) ≤ 8) then decide ((g.es.length : Int) ≤ 12) else false) := by
    rw [bif_and]; unfold Gr.few24
    congr 1
    · exact decide_eq_decide.2 (by omega)
    · exact decide_eq_decide.2 (by omega)
  rw [e]; rfl

/-- soundpost/soundpostlaw24.sane -/
theorem spec19  : FnSpec Try.prog 19 [] [] (bv true) [] [] := by
  refine fnSpec_of (rs := [.tmp 0]) Try.func19 rfl rfl (Nat.le_of_ble_eq_true rfl) (by simp [St.get]) fun E hk hn => ?_
  apply WPA.seq
  apply WPA.region
  · apply Trace.pu [] (.assign (.plain rfl))
    exact .nil _
  · exact keepOK_of hk hn rfl
  apply WPA.seq
  apply WPA.region
  · apply Trace.buildRows (g := fun i => [Col.ints .i64 [0, 3, 0]].map (Col.at · i)) so22 zo3 rfl (by decide) (by decide) (.cons (.plain rfl) rfl rfl (Nat.le_of_ble_eq_true rfl) (.cons (.plain rfl) rfl rfl (Nat.le_of_ble_eq_true rfl) (.cons (.plain rfl) rfl rfl (Nat.le_of_ble_eq_true rfl) (.nil _ _)))) rfl (fun i hi => by rcases (by omega : i = 0 ∨ i = 1 ∨ i = 2) with rfl | rfl | rfl <;> rfl)
    apply Trace.pu [] (.build zo34 pl34 (.cons (.plain rfl) rfl rfl (Nat.le_of_ble_eq_true rfl) (.cons (.plain rfl) rfl rfl (Nat.le_of_ble_eq_true rfl) (.cons (.plain rfl) rfl rfl (Nat.le_of_ble_eq_true rfl) (.nil _ _)))) rfl)
    apply Trace.pu [] (.build zo34 pl34 (.cons (.plain rfl) rfl rfl (Nat.le_of_ble_eq_true rfl) (.cons (.plain rfl) rfl rfl (Nat.le_of_ble_eq_true rfl) (.cons (.plain rfl) rfl rfl (Nat.le_of_ble_eq_true rfl) (.nil _ _)))) rfl)
    apply Trace.pu [] (.build zo34 pl34 (.cons (.plain rfl) rfl rfl (Nat.le_of_ble_eq_true rfl) (.cons (.plain rfl) rfl rfl (Nat.le_of_ble_eq_true rfl) (.cons (.plain rfl) rfl rfl (Nat.le_of_ble_eq_true rfl) (.nil _ _)))) rfl)
    apply Trace.buildRows (g := fun k => (C1.es.getD k default).ds) so23 zo34 rfl (by decide) (by decide) (.cons (.plain rfl) rfl rfl (Nat.le_of_ble_eq_true rfl) (.cons (.plain rfl) rfl rfl (Nat.le_of_ble_eq_true rfl) (.cons (.plain rfl) rfl rfl (Nat.le_of_ble_eq_true rfl) (.nil _ _)))) rfl (fun i hi => by rcases (by omega : i = 0 ∨ i = 1 ∨ i = 2) with rfl | rfl | rfl <;> rfl)
    apply Trace.pu [] (.build zo25 pl25 (.cons (.plain rfl) rfl rfl (Nat.le_of_ble_eq_true rfl) (.cons (.plain rfl) rfl rfl (Nat.le_of_ble_eq_true rfl) (.nil _ _))) rfl)
    apply Trace.alloc 1 [] (.data _) zo25 (cellsAs_data _) rfl
    first | apply Trace.storeD ty25 (.plain rfl) (.plain rfl) rfl rfl (by simp) (by simp [AV.oneB, single, intsD, rowsD]) (by simp) (spliceL_all (by simp)) | apply Trace.storeD ty25 (.plain rfl) (.plain rfl) rfl rfl (by simp) (by simp [AV.oneB, single, intsD, rowsD]) (by simp) rfl | apply Trace.storeDA ty25 (.plain rfl) (.plain rfl) rfl rfl (by simp) (by simp [AV.oneB, single]) (by simp) rfl | apply Trace.storeLoc ty25 (.plain rfl) (.plain rfl) rfl rfl (by simp) (by simp [AV.oneB, single]) (by simp) rfl | apply Trace.storeRow ty25 (.plain rfl) (.plain rfl) rfl rfl rfl rfl (by decide) (by simp [AV.oneB, single]) rfl (by omega)
    exact .nil _
  · exact keepOK_of hk hn rfl
  apply WPA.seq
  apply WPA.region
  · apply Trace.buildRows (g := fun i => [Col.ints .i64 [0, 0, 3]].map (Col.at · i)) so22 zo3 rfl (by decide) (by decide) (.cons (.plain rfl) rfl rfl (Nat.le_of_ble_eq_true rfl) (.cons (.plain rfl) rfl rfl (Nat.le_of_ble_eq_true rfl) (.cons (.plain rfl) rfl rfl (Nat.le_of_ble_eq_true rfl) (.nil _ _)))) rfl (fun i hi => by rcases (by omega : i = 0 ∨ i = 1 ∨ i = 2) with rfl | rfl | rfl <;> rfl)
    apply Trace.buildRows (g := fun i => [Col.ints .i64 [0, 0, 3]].map (Col.at · i)) so22 zo3 rfl (by decide) (by decide) (.cons (.plain rfl) rfl rfl (Nat.le_of_ble_eq_true rfl) (.cons (.plain rfl) rfl rfl (Nat.le_of_ble_eq_true rfl) (.cons (.plain rfl) rfl rfl (Nat.le_of_ble_eq_true rfl) (.nil _ _)))) rfl (fun i hi => by rcases (by omega : i = 0 ∨ i = 1 ∨ i = 2) with rfl | rfl | rfl <;> rfl)
    apply Trace.pu [] (.build zo28 pl28 (.cons (.plain rfl) rfl rfl (Nat.le_of_ble_eq_true rfl) (.cons (.plain rfl) rfl rfl (Nat.le_of_ble_eq_true rfl) (.cons (.plain rfl) rfl rfl (Nat.le_of_ble_eq_true rfl) (.nil _ _)))) rfl)
    apply Trace.alloc 2 [] (.data _) zo28 (cellsAs_data _) rfl
    first | apply Trace.storeD ty28 (.plain rfl) (.plain rfl) rfl rfl (by simp) (by simp [AV.oneB, single, intsD, rowsD]) (by simp) (spliceL_all (by simp)) | apply Trace.storeD ty28 (.plain rfl) (.plain rfl) rfl rfl (by simp) (by simp [AV.oneB, single, intsD, rowsD]) (by simp) rfl | apply Trace.storeDA ty28 (.plain rfl) (.plain rfl) rfl rfl (by simp) (by simp [AV.oneB, single]) (by simp) rfl | apply Trace.storeLoc ty28 (.plain rfl) (.plain rfl) rfl rfl (by simp) (by simp [AV.oneB, single]) (by simp) rfl | apply Trace.storeRow ty28 (.plain rfl) (.plain rfl) rfl rfl rfl rfl (by decide) (by simp [AV.oneB, single]) rfl (by omega)
    exact .nil _
  · exact keepOK_of hk hn rfl
  apply WPA.seq
  apply WPA.region
  · apply Trace.buildRows (g := fun i => [Col.ints .i64 [0, 1, 4]].map (Col.at · i)) so22 zo3 rfl (by decide) (by decide) (.cons (.plain rfl) rfl rfl (Nat.le_of_ble_eq_true rfl) (.cons (.plain rfl) rfl rfl (Nat.le_of_ble_eq_true rfl) (.cons (.plain rfl) rfl rfl (Nat.le_of_ble_eq_true rfl) (.nil _ _)))) rfl (fun i hi => by rcases (by omega : i = 0 ∨ i = 1 ∨ i = 2) with rfl | rfl | rfl <;> rfl)
    apply Trace.buildRows (g := fun i => [Col.ints .i64 [1, 0, 4]].map (Col.at · i)) so22 zo3 rfl (by decide) (by decide) (.cons (.plain rfl) rfl rfl (Nat.le_of_ble_eq_true rfl) (.cons (.plain rfl) rfl rfl (Nat.le_of_ble_eq_true rfl) (.cons (.plain rfl) rfl rfl (Nat.le_of_ble_eq_true rfl) (.nil _ _)))) rfl (fun i hi => by rcases (by omega : i = 0 ∨ i = 1 ∨ i = 2) with rfl | rfl | rfl <;> rfl)
    apply Trace.pu [] (.build zo28 pl28 (.cons (.plain rfl) rfl rfl (Nat.le_of_ble_eq_true rfl) (.cons (.plain rfl) rfl rfl (Nat.le_of_ble_eq_true rfl) (.cons (.plain rfl) rfl rfl (Nat.le_of_ble_eq_true rfl) (.nil _ _)))) rfl)
    apply Trace.alloc 3 [] (.data _) zo28 (cellsAs_data _) rfl
    first | apply Trace.storeD ty28 (.plain rfl) (.plain rfl) rfl rfl (by simp) (by simp [AV.oneB, single, intsD, rowsD]) (by simp) (spliceL_all (by simp)) | apply Trace.storeD ty28 (.plain rfl) (.plain rfl) rfl rfl (by simp) (by simp [AV.oneB, single, intsD, rowsD]) (by simp) rfl | apply Trace.storeDA ty28 (.plain rfl) (.plain rfl) rfl rfl (by simp) (by simp [AV.oneB, single]) (by simp) rfl | apply Trace.storeLoc ty28 (.plain rfl) (.plain rfl) rfl rfl (by simp) (by simp [AV.oneB, single]) (by simp) rfl | apply Trace.storeRow ty28 (.plain rfl) (.plain rfl) rfl rfl rfl rfl (by decide) (by simp [AV.oneB, single]) rfl (by omega)
    exact .nil _
  · exact keepOK_of hk hn rfl
  apply WPA.seq
  apply WPA.region
  · first | apply Trace.pu [_] (.loadAllD ty25 (.plain rfl) rfl (by simp)) | apply Trace.pu [_] (.loadLocD ty25 (.plain rfl) rfl (fun _ => by simp)) | apply Trace.pu [_] (.loadLoc ty25 (.plain rfl) rfl (fun _ => Nat.le_of_ble_eq_true rfl)) | apply Trace.pu [] (.loadRp ty25 (.plain rfl) (fun _ => by decide)) | apply Trace.pu [] (.loadRp ty25 (.plain rfl) (fun _ => Nat.le_of_ble_eq_true rfl)) | apply Trace.pu [_] (.loadCol ty25 (.plain rfl) rfl rfl (fun _ => by decide) (fun _ => by omega)) | apply Trace.pu [_] (.loadArr ty25 (.plain rfl) rfl)
    apply Trace.buildRows (g := fun i => [Col.ints .i64 [1, 1, 1]].map (Col.at · i)) so22 zo3 rfl (by decide) (by decide) (.cons (.plain rfl) rfl rfl (Nat.le_of_ble_eq_true rfl) (.cons (.plain rfl) rfl rfl (Nat.le_of_ble_eq_true rfl) (.cons (.plain rfl) rfl rfl (Nat.le_of_ble_eq_true rfl) (.nil _ _)))) rfl (fun i hi => by rcases (by omega : i = 0 ∨ i = 1 ∨ i = 2) with rfl | rfl | rfl <;> rfl)
    apply Trace.ct (callArgs0 (.cons (.plain rfl) (.cons (.plain rfl) .nil))) c24B1 en16
    apply Trace.pu [] (.move (.plain rfl))
    apply Trace.pu [] (.extract (.plain rfl) rfl)
    apply Trace.pu [] (.extract (.plain rfl) rfl)
    apply Trace.pu [] (.assign (.plain rfl))
    apply Trace.pu [] (.assign (.plain rfl))
    exact .nil _
  · exact keepOK_of hk hn rfl
  apply WPA.seq
  apply WPA.region
  · first | apply Trace.pu [_] (.loadAllD ty25 (.plain rfl) rfl (by simp)) | apply Trace.pu [_] (.loadLocD ty25 (.plain rfl) rfl (fun _ => by simp)) | apply Trace.pu [_] (.loadLoc ty25 (.plain rfl) rfl (fun _ => Nat.le_of_ble_eq_true rfl)) | apply Trace.pu [] (.loadRp ty25 (.plain rfl) (fun _ => by decide)) | apply Trace.pu [] (.loadRp ty25 (.plain rfl) (fun _ => Nat.le_of_ble_eq_true rfl)) | apply Trace.pu [_] (.loadCol ty25 (.plain rfl) rfl rfl (fun _ => by decide) (fun _ => by omega)) | apply Trace.pu [_] (.loadArr ty25 (.plain rfl) rfl)
    apply Trace.buildRows (g := fun i => [Col.ints .i64 [2, 2, 0]].map (Col.at · i)) so22 zo3 rfl (by decide) (by decide) (.cons (.plain rfl) rfl rfl (Nat.le_of_ble_eq_true rfl) (.cons (.plain rfl) rfl rfl (Nat.le_of_ble_eq_true rfl) (.cons (.plain rfl) rfl rfl (Nat.le_of_ble_eq_true rfl) (.nil _ _)))) rfl (fun i hi => by rcases (by omega : i = 0 ∨ i = 1 ∨ i = 2) with rfl | rfl | rfl <;> rfl)
    apply Trace.ct (callArgs0 (.cons (.plain rfl) (.cons (.plain rfl) .nil))) c24B2 en16
    apply Trace.pu [] (.move (.plain rfl))
    apply Trace.pu [] (.extract (.plain rfl) rfl)
    apply Trace.pu [] (.extract (.plain rfl) rfl)
    apply Trace.pu [] (.assign (.plain rfl))
    apply Trace.pu [] (.assign (.plain rfl))
    exact .nil _
  · exact keepOK_of hk hn rfl
  apply WPA.seq
  apply WPA.region
  · first | apply Trace.pu [_] (.loadAllD ty25 (.plain rfl) rfl (by simp)) | apply Trace.pu [_] (.loadLocD ty25 (.plain rfl) rfl (fun _ => by simp)) | apply Trace.pu [_] (.loadLoc ty25 (.plain rfl) rfl (fun _ => Nat.le_of_ble_eq_true rfl)) | apply Trace.pu [] (.loadRp ty25 (.plain rfl) (fun _ => by decide)) | apply Trace.pu [] (.loadRp ty25 (.plain rfl) (fun _ => Nat.le_of_ble_eq_true rfl)) | apply Trace.pu [_] (.loadCol ty25 (.plain rfl) rfl rfl (fun _ => by decide) (fun _ => by omega)) | apply Trace.pu [_] (.loadArr ty25 (.plain rfl) rfl)
    apply Trace.buildRows (g := fun i => [Col.ints .i64 [2, 1, 1]].map (Col.at · i)) so22 zo3 rfl (by decide) (by decide) (.cons (.plain rfl) rfl rfl (Nat.le_of_ble_eq_true rfl) (.cons (.plain rfl) rfl rfl (Nat.le_of_ble_eq_true rfl) (.cons (.plain rfl) rfl rfl (Nat.le_of_ble_eq_true rfl) (.nil _ _)))) rfl (fun i hi => by rcases (by omega : i = 0 ∨ i = 1 ∨ i = 2) with rfl | rfl | rfl <;> rfl)
    apply Trace.ct (callArgs0 (.cons (.plain rfl) (.cons (.plain rfl) .nil))) c24B3 en16
    apply Trace.pu [] (.move (.plain rfl))
    apply Trace.pu [] (.extract (.plain rfl) rfl)
    apply Trace.pu [] (.extract (.plain rfl) rfl)
    apply Trace.pu [] (.assign (.plain rfl))
    apply Trace.pu [] (.assign (.plain rfl))
    exact .nil _
  · exact keepOK_of hk hn rfl
  apply WPA.seq
  apply WPA.region
  · first | apply Trace.pu [_] (.loadAllD ty25 (.plain rfl) rfl (by simp)) | apply Trace.pu [_] (.loadLocD ty25 (.plain rfl) rfl (fun _ => by simp)) | apply Trace.pu [_] (.loadLoc ty25 (.plain rfl) rfl (fun _ => Nat.le_of_ble_eq_true rfl)) | apply Trace.pu [] (.loadRp ty25 (.plain rfl) (fun _ => by decide)) | apply Trace.pu [] (.loadRp ty25 (.plain rfl) (fun _ => Nat.le_of_ble_eq_true rfl)) | apply Trace.pu [_] (.loadCol ty25 (.plain rfl) rfl rfl (fun _ => by decide) (fun _ => by omega)) | apply Trace.pu [_] (.loadArr ty25 (.plain rfl) rfl)
    first | apply Trace.pu [_] (.loadAllD ty28 (.plain rfl) rfl (by simp)) | apply Trace.pu [_] (.loadLocD ty28 (.plain rfl) rfl (fun _ => by simp)) | apply Trace.pu [_] (.loadLoc ty28 (.plain rfl) rfl (fun _ => Nat.le_of_ble_eq_true rfl)) | apply Trace.pu [] (.loadRp ty28 (.plain rfl) (fun _ => by decide)) | apply Trace.pu [] (.loadRp ty28 (.plain rfl) (fun _ => Nat.le_of_ble_eq_true rfl)) | apply Trace.pu [_] (.loadCol ty28 (.plain rfl) rfl rfl (fun _ => by decide) (fun _ => by omega)) | apply Trace.pu [_] (.loadArr ty28 (.plain rfl) rfl)
    apply Trace.buildRows (g := fun i => [Col.ints .i64 [2, 2, 0]].map (Col.at · i)) so22 zo3 rfl (by decide) (by decide) (.cons (.plain rfl) rfl rfl (Nat.le_of_ble_eq_true rfl) (.cons (.plain rfl) rfl rfl (Nat.le_of_ble_eq_true rfl) (.cons (.plain rfl) rfl rfl (Nat.le_of_ble_eq_true rfl) (.nil _ _)))) rfl (fun i hi => by rcases (by omega : i = 0 ∨ i = 1 ∨ i = 2) with rfl | rfl | rfl <;> rfl)
    apply Trace.ct (callArgs0 (.cons (.plain rfl) (.cons (.plain rfl) (.cons (.plain rfl) .nil)))) c24K1 en15
    apply Trace.pu [] (.move (.plain rfl))
    apply Trace.pu [] (.extract (.plain rfl) rfl)
    apply Trace.pu [] (.extract (.plain rfl) rfl)
    apply Trace.pu [] (.assign (.plain rfl))
    apply Trace.pu [] (.assign (.plain rfl))
    exact .nil _
  · exact keepOK_of hk hn rfl
  apply WPA.seq
  apply WPA.region
  · first | apply Trace.pu [_] (.loadAllD ty25 (.plain rfl) rfl (by simp)) | apply Trace.pu [_] (.loadLocD ty25 (.plain rfl) rfl (fun _ => by simp)) | apply Trace.pu [_] (.loadLoc ty25 (.plain rfl) rfl (fun _ => Nat.le_of_ble_eq_true rfl)) | apply Trace.pu [] (.loadRp ty25 (.plain rfl) (fun _ => by decide)) | apply Trace.pu [] (.loadRp ty25 (.plain rfl) (fun _ => Nat.le_of_ble_eq_true rfl)) | apply Trace.pu [_] (.loadCol ty25 (.plain rfl) rfl rfl (fun _ => by decide) (fun _ => by omega)) | apply Trace.pu [_] (.loadArr ty25 (.plain rfl) rfl)
    first | apply Trace.pu [_] (.loadAllD ty28 (.plain rfl) rfl (by simp)) | apply Trace.pu [_] (.loadLocD ty28 (.plain rfl) rfl (fun _ => by simp)) | apply Trace.pu [_] (.loadLoc ty28 (.plain rfl) rfl (fun _ => Nat.le_of_ble_eq_true rfl)) | apply Trace.pu [] (.loadRp ty28 (.plain rfl) (fun _ => by decide)) | apply Trace.pu [] (.loadRp ty28 (.plain rfl) (fun _ => Nat.le_of_ble_eq_true rfl)) | apply Trace.pu [_] (.loadCol ty28 (.plain rfl) rfl rfl (fun _ => by decide) (fun _ => by omega)) | apply Trace.pu [_] (.loadArr ty28 (.plain rfl) rfl)
    apply Trace.buildRows (g := fun i => [Col.ints .i64 [1, 1, 1]].map (Col.at · i)) so22 zo3 rfl (by decide) (by decide) (.cons (.plain rfl) rfl rfl (Nat.le_of_ble_eq_true rfl) (.cons (.plain rfl) rfl rfl (Nat.le_of_ble_eq_true rfl) (.cons (.plain rfl) rfl rfl (Nat.le_of_ble_eq_true rfl) (.nil _ _)))) rfl (fun i hi => by rcases (by omega : i = 0 ∨ i = 1 ∨ i = 2) with rfl | rfl | rfl <;> rfl)
    apply Trace.ct (callArgs0 (.cons (.plain rfl) (.cons (.plain rfl) (.cons (.plain rfl) .nil)))) c24K2 en15
    apply Trace.pu [] (.move (.plain rfl))
    apply Trace.pu [] (.extract (.plain rfl) rfl)
    apply Trace.pu [] (.extract (.plain rfl) rfl)
    apply Trace.pu [] (.assign (.plain rfl))
    apply Trace.pu [] (.assign (.plain rfl))
    exact .nil _
  · exact keepOK_of hk hn rfl
  apply WPA.seq
  apply WPA.region
  · first | apply Trace.pu [_] (.loadAllD ty25 (.plain rfl) rfl (by simp)) | apply Trace.pu [_] (.loadLocD ty25 (.plain rfl) rfl (fun _ => by simp)) | apply Trace.pu [_] (.loadLoc ty25 (.plain rfl) rfl (fun _ => Nat.le_of_ble_eq_true rfl)) | apply Trace.pu [] (.loadRp ty25 (.plain rfl) (fun _ => by decide)) | apply Trace.pu [] (.loadRp ty25 (.plain rfl) (fun _ => Nat.le_of_ble_eq_true rfl)) | apply Trace.pu [_] (.loadCol ty25 (.plain rfl) rfl rfl (fun _ => by decide) (fun _ => by omega)) | apply Trace.pu [_] (.loadArr ty25 (.plain rfl) rfl)
    first | apply Trace.pu [_] (.loadAllD ty28 (.plain rfl) rfl (by simp)) | apply Trace.pu [_] (.loadLocD ty28 (.plain rfl) rfl (fun _ => by simp)) | apply Trace.pu [_] (.loadLoc ty28 (.plain rfl) rfl (fun _ => Nat.le_of_ble_eq_true rfl)) | apply Trace.pu [] (.loadRp ty28 (.plain rfl) (fun _ => by decide)) | apply Trace.pu [] (.loadRp ty28 (.plain rfl) (fun _ => Nat.le_of_ble_eq_true rfl)) | apply Trace.pu [_] (.loadCol ty28 (.plain rfl) rfl rfl (fun _ => by decide) (fun _ => by omega)) | apply Trace.pu [_] (.loadArr ty28 (.plain rfl) rfl)
    apply Trace.ct (callArgs0 (.cons (.plain rfl) (.cons (.plain rfl) .nil))) c24M1 en14
    apply Trace.pu [] (.move (.plain rfl))
    apply Trace.pu [] (.extract (.plain rfl) rfl)
    apply Trace.pu [] (.extract (.plain rfl) rfl)
    apply Trace.pu [] (.assign (.plain rfl))
    apply Trace.pu [] (.assign (.plain rfl))
    exact .nil _
  · exact keepOK_of hk hn rfl
  apply WPA.seq
  apply WPA.region
  · first | apply Trace.pu [_] (.loadAllD ty25 (.plain rfl) rfl (by simp)) | apply Trace.pu [_] (.loadLocD ty25 (.plain rfl) rfl (fun _ => by simp)) | apply Trace.pu [_] (.loadLoc ty25 (.plain rfl) rfl (fun _ => Nat.le_of_ble_eq_true rfl)) | apply Trace.pu [] (.loadRp ty25 (.plain rfl) (fun _ => by decide)) | apply Trace.pu [] (.loadRp ty25 (.plain rfl) (fun _ => Nat.le_of_ble_eq_true rfl)) | apply Trace.pu [_] (.loadCol ty25 (.plain rfl) rfl rfl (fun _ => by decide) (fun _ => by omega)) | apply Trace.pu [_] (.loadArr ty25 (.plain rfl) rfl)
    first | apply Trace.pu [_] (.loadAllD ty28 (.plain rfl) rfl (by simp)) | apply Trace.pu [_] (.loadLocD ty28 (.plain rfl) rfl (fun _ => by simp)) | apply Trace.pu [_] (.loadLoc ty28 (.plain rfl) rfl (fun _ => Nat.le_of_ble_eq_true rfl)) | apply Trace.pu [] (.loadRp ty28 (.plain rfl) (fun _ => by decide)) | apply Trace.pu [] (.loadRp ty28 (.plain rfl) (fun _ => Nat.le_of_ble_eq_true rfl)) | apply Trace.pu [_] (.loadCol ty28 (.plain rfl) rfl rfl (fun _ => by decide) (fun _ => by omega)) | apply Trace.pu [_] (.loadArr ty28 (.plain rfl) rfl)
    apply Trace.ct (callArgs0 (.cons (.plain rfl) (.cons (.plain rfl) .nil))) c24M2 en14
    apply Trace.pu [] (.move (.plain rfl))
    apply Trace.pu [] (.extract (.plain rfl) rfl)
    apply Trace.pu [] (.extract (.plain rfl) rfl)
    apply Trace.pu [] (.assign (.plain rfl))
    apply Trace.pu [] (.assign (.plain rfl))
    exact .nil _
  · exact keepOK_of hk hn rfl
  apply WPA.seq
  apply WPA.region
  · apply Trace.buildRows (g := fun i => [Col.ints .i64 [0]].map (Col.at · i)) so22 zo3 rfl (by decide) (by decide) (.cons (.plain rfl) rfl rfl (Nat.le_of_ble_eq_true rfl) (.nil _ _)) rfl (fun i hi => by cases i with | zero => rfl | succ k => omega)
    apply Trace.pu [] (.build zo25 pl25 (.cons (.plain rfl) rfl rfl (Nat.le_of_ble_eq_true rfl) (.nil _ _)) rfl)
    apply Trace.pu [] (.build zo28 pl28 (.nil _ _) rfl)
    apply Trace.ct (callArgs0 (.cons (.plain rfl) (.cons (.plain rfl) (.cons (.plain rfl) .nil)))) (FnSpec.argLe (A1 := []) (A2 := [_, _]) (FnSpec.argLe (A1 := [_]) (A2 := [_]) (FnSpec.argLe (A1 := [_, _]) (A2 := []) c24K3 den_emp) (den_aggLe (.rows (.rows (.same .nil))))) (den_aggLe (.same (.rows .nil)))) en15
    apply Trace.pu [] (.move (.plain rfl))
    apply Trace.pu [] (.extract (.plain rfl) rfl)
    apply Trace.pu [] (.extract (.plain rfl) rfl)
    apply Trace.pu [] (.assign (.plain rfl))
    apply Trace.pu [] (.assign (.plain rfl))
    exact .nil _
  · exact keepOK_of hk hn rfl
  apply WPA.seq
  apply WPA.region
  · apply Trace.pu [] (.build zo25 pl25 (.nil _ _) rfl)
    apply Trace.ct (callArgs0 (.cons (.plain rfl) (.cons (.plain rfl) .nil))) (FnSpec.argLe (A1 := []) (A2 := [_]) (FnSpec.argLe (A1 := [_]) (A2 := []) c24B4 den_emp) (den_aggLe (.rows (.rows .nil)))) en16
    apply Trace.pu [] (.move (.plain rfl))
    apply Trace.pu [] (.extract (.plain rfl) rfl)
    apply Trace.pu [] (.extract (.plain rfl) rfl)
    apply Trace.pu [] (.assign (.plain rfl))
    apply Trace.pu [] (.assign (.plain rfl))
    exact .nil _
  · exact keepOK_of hk hn rfl
  apply WPA.seq
  apply WPA.region
  · apply Trace.pu [] (.move (.plain rfl))
    apply Trace.pu [] (.cmp (.plain rfl) (.plain rfl) rfl)
    apply Trace.pu [] (.move (.plain rfl))
    apply Trace.pg [] rfl (.move (.plain rfl))
    apply Trace.pg [] rfl (.cmp (.gd rfl (fun h => h)) (.plain rfl) rfl)
    apply Trace.pu [] (.pick (.plain rfl) (.gd rfl (by simp)) (.plain rfl))
    apply Trace.pu [] (.move (.plain rfl))
    apply Trace.pg [] rfl (.move (.plain rfl))
    apply Trace.pg [] rfl (.cmp (.gd rfl (fun h => h)) (.plain rfl) rfl)
    apply Trace.pu [] (.pick (.plain rfl) (.gd rfl (by simp)) (.plain rfl))
    apply Trace.pu [] (.move (.plain rfl))
    apply Trace.pg [] rfl (.move (.plain rfl))
    apply Trace.pg [] rfl (.cmp (.gd rfl (fun h => h)) (.plain rfl) rfl)
    apply Trace.pu [] (.pick (.plain rfl) (.gd rfl (by simp)) (.plain rfl))
    apply Trace.pu [] (.move (.plain rfl))
    apply Trace.pg [] rfl (.move (.plain rfl))
    apply Trace.pg [] rfl (.cmp (.gd rfl (fun h => h)) (.plain rfl) rfl)
    apply Trace.pu [] (.pick (.plain rfl) (.gd rfl (by simp)) (.plain rfl))
    apply Trace.pu [] (.move (.plain rfl))
    apply Trace.pg [] rfl (.move (.plain rfl))
    apply Trace.pg [] rfl (.cmp (.gd rfl (fun h => h)) (.plain rfl) rfl)
    apply Trace.pu [] (.pick (.plain rfl) (.gd rfl (by simp)) (.plain rfl))
    apply Trace.pu [] (.move (.plain rfl))
    apply Trace.pg [] rfl (.move (.plain rfl))
    apply Trace.pu [] (.pick (.plain rfl) (.gd rfl (by simp)) (.plain rfl))
    apply Trace.pu [] (.move (.plain rfl))
    apply Trace.pg [] rfl (.move (.plain rfl))
    apply Trace.pg [] rfl (.cmp (.gd rfl (fun h => h)) (.plain rfl) rfl)
    apply Trace.pu [] (.pick (.plain rfl) (.gd rfl (by simp)) (.plain rfl))
    apply Trace.pu [] (.move (.plain rfl))
    apply Trace.pg [] rfl (.move (.plain rfl))
    apply Trace.pg [] rfl (.not (.gd rfl (fun h => h)))
    apply Trace.pu [] (.pick (.plain rfl) (.gd rfl (by simp)) (.plain rfl))
    apply Trace.pu [] (.assign (.plain rfl))
    exact .nil _
  · exact keepOK_of hk hn rfl
  apply WPA.seq
  apply WPA.region
  · apply Trace.pu [] (.move (.plain rfl))
    apply Trace.pu [] (.move (.plain rfl))
    apply Trace.pg [] rfl (.move (.plain rfl))
    apply Trace.pg [] rfl (.cmp (.gd rfl (fun h => h)) (.plain rfl) rfl)
    apply Trace.pu [] (.pick (.plain rfl) (.gd rfl (by simp)) (.plain rfl))
    apply Trace.pu [] (.move (.plain rfl))
    apply Trace.pg [] rfl (.move (.plain rfl))
    apply Trace.og rfl
    apply Trace.buildRows (g := fun i => [Col.ints .i64 [2, 2, 0]].map (Col.at · i)) so22 zo3 rfl (by decide) (by decide) (.cons (.plain rfl) rfl rfl (Nat.le_of_ble_eq_true rfl) (.cons (.plain rfl) rfl rfl (Nat.le_of_ble_eq_true rfl) (.cons (.plain rfl) rfl rfl (Nat.le_of_ble_eq_true rfl) (.nil _ _)))) rfl (fun i hi => by rcases (by omega : i = 0 ∨ i = 1 ∨ i = 2) with rfl | rfl | rfl <;> rfl)
    apply Trace.cg rfl (callArgs0 (.cons (.gd rfl (fun h => h)) (.cons (.plain rfl) .nil))) (fun _ => sm24 (a := [2, 2, 0]) (b := [2, 2, 0]) (by decide) rfl) en40
    apply Trace.pu [] (.pick (.plain rfl) (.gd rfl (by simp)) (.plain rfl))
    apply Trace.pu [] (.move (.plain rfl))
    apply Trace.pg [] rfl (.move (.plain rfl))
    apply Trace.pg [] rfl (.cmp (.gd rfl (fun h => h)) (.plain rfl) rfl)
    apply Trace.pu [] (.pick (.plain rfl) (.gd rfl (by simp)) (.plain rfl))
    apply Trace.pu [] (.move (.plain rfl))
    apply Trace.pg [] rfl (.move (.plain rfl))
    apply Trace.pg [] rfl (.cmp (.gd rfl (fun h => h)) (.plain rfl) rfl)
    apply Trace.pu [] (.pick (.plain rfl) (.gd rfl (by simp)) (.plain rfl))
    apply Trace.pu [] (.move (.plain rfl))
    apply Trace.pg [] rfl (.move (.plain rfl))
    apply Trace.pg [] rfl (.cmp (.gd rfl (fun h => h)) (.plain rfl) rfl)
    apply Trace.pu [] (.pick (.plain rfl) (.gd rfl (by simp)) (.plain rfl))
    apply Trace.pu [] (.move (.plain rfl))
    apply Trace.pg [] rfl (.move (.plain rfl))
    apply Trace.pg [] rfl (.cmp (.gd rfl (fun h => h)) (.plain rfl) rfl)
    apply Trace.pu [] (.pick (.plain rfl) (.gd rfl (by simp)) (.plain rfl))
    apply Trace.pu [] (.assign (.plain rfl))
    exact .nil _
  · exact keepOK_of hk hn rfl
  apply WPA.ret
  refine ⟨.inr rfl, ⟨_, (.cons (.tmp rfl) .nil), ?_⟩, by simp [St.get]⟩
  rfl

end Go.Proofs.Ytcidkahhfdcddaa


/- CertifyBounds, CertifyPlans. -/
namespace Go.Proofs.Ytcidkahhfdcddaa
open Go
set_option linter.unusedVariables false
set_option linter.unusedSimpArgs false
set_option maxRecDepth 10000
set_option maxHeartbeats 1000000

theorem mem_memTo (g : Gr) (l : List Int) : g.mem (fn l) = g.memTo l g.es.length := rfl
theorem bnd_mem {g : Gr} (hok : g.OK) {fl l : List Int} (hB : g.flowB fl = true) (hP : g.posB l = true) : g.bnd fl g.es.length ≤ g.memTo l g.es.length := by
  obtain ⟨_, h2, h3⟩ := (flowB_iff hok).1 hB
  exact bnd_le h3 (fun i hi => (h2 i hi).1) (posB_iff hP).2.1
theorem bound_ok {g : Gr} {fl : List Int} (h : (g.boundP fl).2 = 0) : g.check = 0 ∧ g.flowB fl = true ∧ g.boundP fl = (g.bnd fl g.es.length, 0) := by
  unfold Gr.boundP at *
  split at h
  · rename_i h1; exact absurd h h1
  · rename_i h1
    split at h
    · rename_i h2; rw [if_neg h1, if_pos h2]; exact ⟨Classical.not_not.1 h1, h2, rfl⟩
    · cases h
theorem cert_ok {g : Gr} {p : Pl} {fl : List Int} (h : (g.certP p fl).2 = 0) (h' : (g.certP p fl).1 = true) : g.check = 0 ∧ g.isPlan p = true ∧ g.flowB fl = true ∧ g.bnd fl g.es.length = p.mem := by
  unfold Gr.certP at *
  split at h
  · rename_i h1; exact absurd h h1
  · rename_i h1
    rw [if_neg h1] at h'
    split at h
    · rename_i h2
      rw [if_pos h2] at h'
      split at h
      · rename_i h3
        rw [if_pos h3] at h'
        exact ⟨Classical.not_not.1 h1, h2, h3, of_decide_eq_true h'⟩
      · cases h
    · cases h
theorem cert_fin {g : Gr} {p : Pl} {fl l : List Int} (hP : g.posB l = true) : (bif (bif !decide ((g.certP p fl).2 = 0) then true else !(g.certP p fl).1) then true else (bif decide (p.mem ≤ g.memTo l g.es.length) then decide (p.mem = (g.boundP fl).1) else false)) = true := by
  rw [bif_or, bif_or, bif_and]
  by_cases h : (g.certP p fl).2 = 0
  · cases h' : (g.certP p fl).1 with
    | false => simp
    | true =>
      obtain ⟨h1, h2, h3, h4⟩ := cert_ok h h'
      have hb : g.boundP fl = (g.bnd fl g.es.length, 0) := by unfold Gr.boundP; rw [if_neg (by rw [h1]; decide), if_pos h3]
      have := bnd_mem (g.ok_of (check_formed h1)) h3 hP
      rw [hb]
      rw [decide_eq_true (show p.mem ≤ g.memTo l g.es.length by omega), decide_eq_true (show p.mem = (g.bnd fl g.es.length, (0 : Int)).1 from h4.symm)]
      simp
  · simp [h]
theorem certF_flow {g : Gr} (hC : g.check = 0) (ht : g.Tiny) {l : List Int} (hP : g.posB l = true) : g.flowB (g.certF (fn l)) = true ∧ (g.certF (fn l)).length = g.es.length ∧ g.bnd (g.certF (fn l)) g.es.length = g.mem (fn g.best) := by
  have hok := g.ok_of (check_formed hC)
  have hsh := check_short hC
  have hlow := posB_low hok hP
  obtain ⟨_, _, hf, hq⟩ := certF_mk hok hsh hlow
  refine ⟨(flowB_iff hok).2 ⟨hf.len, fun i hi => ?_, hf.same⟩, hf.len, quiet_bnd hok hsh hlow hf hq⟩
  have a := hf.pos i hi
  have b := quiet_small hok hsh hlow hf hq hi
  have c := ht.m
  omega
theorem isPlan_of {g : Gr} (hC : g.check = 0) {l : List Int} (hP : g.posB l = true) : g.isPlan (g.planOf l) = true := isPlan_iff.2 ⟨hC, hP, rfl⟩
theorem certMake_at {g : Gr} (hC : g.check = 0) {l : List Int} (hP : g.posB l = true) : g.certMakeP (g.planOf l) = if g.mem (fn g.best) = g.mem (fn l) then (g.certF (fn l), 0) else ([], 240) := by
  unfold Gr.certMakeP
  rw [if_neg (by rw [hC]; decide), if_pos (isPlan_of hC hP)]
  rfl
theorem certMake_best {g : Gr} (hC : g.check = 0) (ht : g.Tiny) : g.certMakeP (g.planOf g.best) = (g.certF (fn g.best), 0) := by
  rw [certMake_at hC (best_posB (g.ok_of (check_formed hC)) (check_short hC) ht), if_pos rfl]
theorem certP_best {g : Gr} (hC : g.check = 0) (ht : g.Tiny) : g.certP (g.planOf g.best) (g.certF (fn g.best)) = (true, 0) := by
  have hP := best_posB (g.ok_of (check_formed hC)) (check_short hC) ht
  obtain ⟨a, b, c⟩ := certF_flow hC ht hP
  unfold Gr.certP
  rw [if_neg (by rw [hC]; decide), if_pos (isPlan_of hC hP), if_pos a, decide_eq_true (show g.bnd (g.certF (fn g.best)) g.es.length = (g.planOf g.best).mem from c)]
theorem certMake_err {g : Gr} (hC : g.check ≠ 0) (p : Pl) : g.certMakeP p = ([], g.check) := by unfold Gr.certMakeP; rw [if_pos hC]
theorem best_min {g : Gr} (hC : g.check = 0) {l : List Int} (hP : g.posB l = true) : g.mem (fn g.best) ≤ g.mem (fn l) := by
  obtain ⟨_, _, hb⟩ := best_mk (g.ok_of (check_formed hC)) (check_short hC)
  exact hb.min _ (posB_iff hP).2.1
theorem plans_fin {g : Gr} (hC : g.check = 0) {l : List Int} (hP : g.posB l = true) : (bif (bif decide (g.mem (fn g.best) ≤ g.mem (fn l)) then (decide ((g.certMakeP (g.planOf l)).2 = 0) == decide (g.mem (fn l) = g.mem (fn g.best))) else false) then (bif decide ((g.certMakeP (g.planOf l)).2 = 0) then true else decide ((g.certMakeP (g.planOf l)).2 = 240)) else false) = true := by
  have h1 := best_min hC hP
  rw [decide_eq_true h1, certMake_at hC hP]
  by_cases e : g.mem (fn g.best) = g.mem (fn l)
  · rw [if_pos e, decide_eq_true e.symm]; rfl
  · rw [if_neg e, decide_eq_false (show ¬ g.mem (fn l) = g.mem (fn g.best) from fun h => e h.symm)]; rfl
theorem certF_len {g : Gr} (hC : g.check = 0) (ht : g.Tiny) {l : List Int} (hP : g.posB l = true) : (g.certF (fn l)).length = g.es.length := (certF_flow hC ht hP).2.1
end Go.Proofs.Ytcidkahhfdcddaa

