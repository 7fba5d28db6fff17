/- GraphNumbers. -/
import Derived.Test.YtcnikeonaklkoaaLaw21E
import Derived.Test.YtcnikeonaklkoaaLaw21F
import Derived.Test.YtcnikeonaklkoaaRenum
namespace Go.Proofs.Ytcnikeonaklkoaa
open Go
set_option linter.unusedVariables false
set_option linter.unusedSimpArgs false
set_option maxRecDepth 10000
set_option maxHeartbeats 4000000

theorem renum_check {g x : Gr} {num : List Int} (h : Renum g x num) : x.check = g.check := by
  unfold Gr.check
  rw [renum_looped h, renum_formed h]
theorem renum_sz {g x : Gr} {num : List Int} (h : Renum g x num) (hz : g.Sz) (hn : g.lat.length ≤ 100) : x.Sz := by
  refine ⟨by rw [h.ll]; exact hz.n, by rw [h.el]; exact hz.m, fun y hy => ?_, fun e' he' => ?_⟩
  · obtain ⟨w, hw, rfl⟩ := List.mem_iff_getElem.1 hy
    obtain ⟨q, _, q2⟩ := h.p.inv
    obtain ⟨a, b⟩ := q2 w (by rw [← h.ll]; exact hw)
    have c := h.lat (q w) a
    rw [b, getD_lt _ _ hw, getD_lt _ _ a] at c
    rw [c]
    exact hz.lat _ (List.getElem_mem _)
  · obtain ⟨e, he, rfl⟩ := (h.ed e').1 he'
    have a := hz.es e he
    have hr : ∀ y : Int, -9223372036854775808 ≤ y ∧ y ≤ 9223372036854775807 → -9223372036854775808 ≤ ren g.lat.length num y ∧ ren g.lat.length num y ≤ 9223372036854775807 := fun y hy => by
      unfold ren
      split
      · have := h.p.rg y.toNat (by omega); omega
      · exact hy
    exact ⟨hr _ a.1, hr _ a.2.1, a.2.2.1, a.2.2.2⟩
theorem renum_reachP {g x : Gr} {num : List Int} (h : Renum g x num) {u : Nat} (hu : u < g.lat.length) : (x.reachP (num.getD u 0)).2 = (g.reachP (u : Int)).2 ∧ (x.reachP (num.getD u 0)).1.length = (g.reachP (u : Int)).1.length ∧
    (∀ y ∈ (x.reachP (num.getD u 0)).1, ∃ w : Nat, y = (w : Int) ∧ w < g.lat.length) ∧ ∀ y ∈ (g.reachP (u : Int)).1, ∃ v : Nat, y = (v : Int) ∧ v < g.lat.length ∧ num.getD v 0 ∈ (x.reachP (num.getD u 0)).1 := by
  have hf := renum_formed h
  have hr := h.p.rg u hu
  by_cases h0 : g.formed = 0
  · have hok := g.ok_of h0
    have hox := x.ok_of (by rw [hf]; exact h0)
    have hnu : (num.getD u 0).toNat < x.lat.length := by rw [h.ll]; exact hr.2
    have e1 : x.reachP (num.getD u 0) = (x.reachL (num.getD u 0).toNat, 0) := by
      have := reachP_at (g := x) (u := (num.getD u 0).toNat) (by rw [hf]; exact h0) hnu
      rwa [Int.toNat_of_nonneg hr.1] at this
    rw [e1, reachP_at h0 hu]
    obtain ⟨r1, r2⟩ := renum_reach h hok hox hu
    refine ⟨rfl, r1, fun y hy => ?_, fun y hy => ?_⟩
    · obtain ⟨w, rfl, hw⟩ := (mem_reachL hox hnu).1 hy
      exact ⟨w, rfl, by rw [← h.ll]; exact hw.lt hox hnu⟩
    · obtain ⟨v, rfl, hw⟩ := (mem_reachL hok hu).1 hy
      have hv := hw.lt hok hu
      have hrv := h.p.rg v hv
      exact ⟨v, rfl, hv, (mem_reachL hox hnu).2 ⟨(num.getD v 0).toNat, by omega, r2 v hw⟩⟩
  · have e1 : x.reachP (num.getD u 0) = ([], g.formed) := by unfold Gr.reachP; rw [hf, if_pos h0]
    have e2 : g.reachP (u : Int) = ([], g.formed) := by unfold Gr.reachP; rw [if_pos h0]
    rw [e1, e2]
    exact ⟨rfl, rfl, fun y hy => (by cases hy), fun y hy => (by cases hy)⟩
theorem edg_set (l : List Edg) (i : Nat) (e : Edg) : [Col.ints .i64 ((l.map (·.f)).set i e.f), .ints .i64 ((l.map (·.t)).set i e.t), .ints .i64 ((l.map (·.w)).set i e.w), .ints .i64 ((l.map (·.d)).set i e.d)] = edgCols (l.set i e) := by
  simp only [edgCols, List.map_set]
/-- soundpost/soundpostlaw21.GraphNumbers -/
theorem spec8 (g : Gr) (hz : g.Sz) (fr : Int) (ts : List Int) (hts : ∀ x ∈ ts, 0 ≤ x ∧ x ≤ 255) (htl : ts.length ≤ 140737488355328) : FnSpec Try.prog 8 [g.av, iv .i64 fr, .d (rowsD 1 ts.length [.ints .u8 ts])] [] (bv true) [] [] := by
  have hn1 := hz.n
  have hn2 := hz.m
  refine fnSpec_of (rs := [.tmp 6]) Try.func8 rfl rfl (Nat.le_of_ble_eq_true rfl) (by simp [St.get]) fun E hk hn => ?_
  apply WPA.seq
  apply WPA.region
  · first | apply Trace.boxD 3 [] (.plain rfl) rfl rfl | apply Trace.box 3 [] (.plain rfl) rfl rfl rfl
    apply Trace.pu [] (.assign (.plain rfl))
    exact .nil _
  · exact keepOK_of hk hn rfl
  apply WPA.seq
  apply WPA.seq
  apply WPA.region
  · apply Trace.cu (callArgs0 .nil) spec10 en10
    apply Trace.pu [] (.not (.plain rfl))
    exact .nil _
  · exact keepOK_of hk hn rfl
  refine WPA.cond rfl (fun hc1 => ?_) (fun hc1 => ?_)
  · cases hc1
  · apply WPA.skip
    apply WPA.seq
    apply WPA.region
    · apply Trace.pu [] (.fieldAddr fl25_0 (.plain rfl) rfl)
      first | apply Trace.pu [_] (.loadLoc1D ty22 (.plain rfl) rfl rfl) | apply Trace.pu [_] (.loadLoc1 ty22 (.plain rfl) rfl rfl) | apply Trace.pu [] (.loadRp1 ty22 (.plain rfl) rfl) | apply Trace.pu [_] (.loadCol1 ty22 (.plain rfl) rfl rfl rfl (fun _ => by omega))
      apply Trace.pu [] (.len rfl Try.underlying22 (.plain rfl) rfl)
      apply Trace.pu [] (.assign (.plain rfl))
      exact .nil _
    · exact keepOK_of hk hn rfl
    apply WPA.seq
    apply WPA.seq
    apply WPA.region
    · apply Trace.pu [] (.move (.plain rfl))
      apply Trace.pu [] (.cmp (.plain rfl) (.plain rfl) rfl)
      apply Trace.pu [] (.move (.plain rfl))
      apply Trace.pg [] rfl (.fieldAddr fl25_1 (.plain rfl) rfl)
      first | apply Trace.pg [_] rfl (.loadLoc1D ty23 (.gd rfl (fun h => h)) rfl rfl) | apply Trace.pg [_] rfl (.loadLoc1 ty23 (.gd rfl (fun h => h)) rfl rfl) | apply Trace.pg [] rfl (.loadRp1 ty23 (.gd rfl (fun h => h)) rfl) | apply Trace.pg [_] rfl (.loadCol1 ty23 (.gd rfl (fun h => h)) rfl rfl rfl (fun _ => by omega))
      apply Trace.pg [] rfl (.len rfl Try.underlying23 (.gd rfl (fun h => h)) rfl)
      apply Trace.pg [] rfl (.cmp (.gd rfl (fun h => h)) (.plain rfl) rfl)
      apply Trace.pu [] (.pick (.plain rfl) (.plain rfl) (.gd rfl (by simp)))
      apply Trace.pu [] (.move (.plain rfl))
      apply Trace.pg [] rfl (.move (.plain rfl))
      apply Trace.pg [] rfl (.len rfl Try.underlying38 (.gd rfl (fun h => h)) rfl)
      apply Trace.pg [] rfl (.cmp (.gd rfl (fun h => h)) (.plain rfl) rfl)
      apply Trace.pu [] (.pick (.plain rfl) (.plain rfl) (.gd rfl (by simp)))
      exact .nil _
    · exact keepOK_of hk hn rfl
    refine WPA.cond rfl (fun hc2 => ?_) (fun hc2 => ?_)
    · apply WPA.seq
      apply WPA.region
      · apply Trace.pu [] (.assign (.plain rfl))
        exact .nil _
      · exact keepOK_of hk hn rfl
      apply WPA.ret
      refine ⟨.inr rfl, ⟨_, (.cons (.tmp rfl) .nil), ?_⟩, by simp [St.get]⟩
      rfl
    · obtain ⟨hn3, hm3, ht3⟩ : g.lat.length ≤ 100 ∧ g.es.length ≤ 100 ∧ ts.length ≤ 100 := by
        have h9 : (bif (bif decide ((100 : Int) < g.lat.length) then true else decide ((100 : Int) < g.es.length)) then true else decide ((100 : Int) < ts.length)) = false := hc2
        rw [bif_or, bif_or] at h9
        simp only [Bool.or_eq_false_iff, decide_eq_false_iff_not] at h9
        omega
      apply WPA.skip
      apply WPA.seq
      apply WPA.region
      · apply Trace.pu [] (.move (.plain rfl))
        apply Trace.makeSlice 46 [] so22 by3 zo3 rfl (by decide) (.plain rfl) (.plain rfl) ⟨by omega, by omega⟩ (by omega) (by omega) rfl rfl
        apply Trace.pu [] (.assign (.plain rfl))
        exact .nil _
      · exact keepOK_of hk hn rfl
      apply WPA.seq
      apply WPA.seq
      apply WPA.region
      · apply Trace.pu [] (.assign (.plain rfl))
        exact .nil _
      · exact keepOK_of hk hn rfl
      apply WPA.block
      refine WPA.loop (σ := Nat) (fun i => [(sl 1, .av (iv .i64 (fr))), (sl 2, .av (.d (rowsD 1 ts.length [.ints .u8 ts]))), (sl 3, .av (.loc 3 0)), (sl 7, .av (iv .i64 (g.lat.length))), (sl 8, .av (.own 46 g.lat.length)), (bk 3, .blk (.data g.ds)), (bk 46, .blk (.app 1 g.lat.length [.ints .i64 (idT g.lat.length i)])), (sl 9, .av (iv .i64 (i)))]) (fun i => i ≤ g.lat.length) (fun i => g.lat.length - i) 0
        (St.le_cons rfl (St.le_cons rfl (St.le_cons rfl (St.le_cons rfl (St.le_cons rfl (St.le_cons rfl (St.le_cons (app_eq64 (by rw [idT_zero]; rfl)) (St.le_cons rfl (St.le_nil _))))))))) (Nat.zero_le _) fun i hi => ?_
      apply WPA.seq
      apply WPA.seq
      apply WPA.region
      · apply Trace.pu [] (.move (.plain rfl))
        apply Trace.pu [] (.move (.plain rfl))
        apply Trace.pu [] (.cmp (.plain rfl) (.plain rfl) rfl)
        exact .nil _
      · exact keepOK_of hk hn rfl
      refine WPA.cond rfl (fun hc3 => ?_) (fun hc3 => ?_)
      · have hlt : i < g.lat.length := by simpa using hc3
        have hil := idT_len g.lat.length i
        apply WPA.skip
        apply WPA.seq
        apply WPA.block
        apply WPA.region
        · apply Trace.pu [] (.move (.plain rfl))
          apply Trace.pu [] (.move (.plain rfl))
          apply Trace.pu [] (.move (.plain rfl))
          first | apply Trace.pu [] (.indexRows el22 (.plain rfl) (.plain rfl) (fun _ => ⟨by omega, by omega⟩)) | apply Trace.pu [] (.indexOwn el22 (.plain rfl) (.plain rfl) (fun _ => ⟨by omega, by omega⟩)) | apply Trace.pu [] (.indexSl el22 (.plain rfl) (.plain rfl) (fun _ => ⟨by omega, by omega⟩))
          first | apply Trace.storeD ty3 (.plain rfl) (.plain rfl) rfl rfl rfl (by simp [AV.oneB, single]) (Nat.le_of_ble_eq_true rfl) rfl | apply Trace.storeDA ty3 (.plain rfl) (.plain rfl) rfl rfl rfl (by simp [AV.oneB, single]) (Nat.le_of_ble_eq_true rfl) rfl | apply Trace.storeLoc ty3 (.plain rfl) (.plain rfl) rfl rfl rfl (by simp [AV.oneB, single]) (Nat.le_of_ble_eq_true rfl) rfl | apply Trace.storeRow ty3 (.plain rfl) (.plain rfl) rfl rfl rfl rfl (by decide) (by simp [AV.oneB, single]) rfl (by omega)
          exact .nil _
        · exact keepOK_of hk hn rfl
        apply WPA.region
        · apply Trace.pu [] (.move (.plain rfl))
          apply Trace.pu [] (.arith (.plain rfl) (.plain rfl) rfl (fun _ => bd64 (by omega)))
          apply Trace.pu [] (.assign (.plain rfl))
          exact .nil _
        · exact keepOK_of hk hn rfl
        exact ⟨i + 1, by omega, by omega, St.le_cons rfl (St.le_cons rfl (St.le_cons rfl (St.le_cons rfl (St.le_cons rfl (St.le_cons rfl (St.le_cons (app_eq64 (idT_succ hlt)) (St.le_cons (slI (by omega)) (St.le_nil _))))))))⟩
      · have him : i = g.lat.length := by
          have : ¬ ((i : Int) < g.lat.length) := by simpa using hc3
          omega
        subst him
        apply WPA.exit
        apply WPA.seq
        refine WPA.weaken (T := [(sl 1, .av (iv .i64 (fr))), (sl 2, .av (.d (rowsD 1 ts.length [.ints .u8 ts]))), (sl 3, .av (.loc 3 0)), (sl 7, .av (iv .i64 (g.lat.length))), (sl 8, .av (.own 46 g.lat.length)), (bk 3, .blk (.data g.ds)), (bk 46, .blk (.app 1 g.lat.length [.ints .i64 (idT g.lat.length g.lat.length)]))]) ?_ (St.le_cons rfl (St.le_cons rfl (St.le_cons rfl (St.le_cons rfl (St.le_cons rfl (St.le_cons rfl (St.le_cons rfl (St.le_nil _))))))))
        apply WPA.draw mixed
        · apply Trace.pu [] (.move (.plain rfl))
          apply Trace.makeSlice 57 [] so22 by3 zo3 rfl (by decide) (.plain rfl) (.plain rfl) ⟨by omega, by omega⟩ (by omega) (by omega) rfl rfl
          apply Trace.buildSlice 58 [] so23 zo40 rfl (by decide) (by decide) (.nil _ _) rfl rfl rfl
          apply Trace.pu [] (.fieldAddr fl25_1 (.plain rfl) rfl)
          first | apply Trace.pu [_] (.loadLoc1D ty23 (.plain rfl) rfl rfl) | apply Trace.pu [_] (.loadLoc1 ty23 (.plain rfl) rfl rfl) | apply Trace.pu [] (.loadRp1 ty23 (.plain rfl) rfl) | apply Trace.pu [_] (.loadCol1 ty23 (.plain rfl) rfl rfl rfl (fun _ => by omega))
          apply Trace.append 61 [bk 58, sl 58] ap23 kd23 (by decide) (.own (.plain rfl) rfl) (.rows (cs := edgCols g.es) (.plain rfl) rfl (by simp [Col.len]) (fun i hi => (edg_row hi).symm)) (Col.ones rfl) (labs_ok rfl) (by omega) (by omega) rfl rfl
          apply Trace.pu [] (.build zo25 pl25 (.cons (.plain rfl) rfl rfl (Nat.le_of_ble_eq_true rfl) (.cons (.plain rfl) rfl rfl (Nat.le_of_ble_eq_true rfl) (.nil _ _))) rfl)
          apply Trace.alloc 10 [] (.data _) zo25 (cellsAs_data _) rfl
          apply Trace.storeDA ty25 (.plain rfl) (.plain rfl) rfl rfl rfl (oneB_all rfl) (Nat.le_of_ble_eq_true rfl) rfl
          exact .nil _
        · rfl
        · exact keepOK_of hk hn rfl
        apply WPA.seq
        apply WPA.seq
        refine WPA.ghost (Ghost.recol (l := 61) (cs' := edgCols g.es) rfl rfl (by intro c hc; simp [edgCols] at hc; rcases hc with rfl | rfl | rfl | rfl <;> simp [Col.len]) (fun i hi => cat_edg (by omega))) ?_
        refine WPA.weaken (T := [(sl 1, .av (iv .i64 (fr))), (sl 2, .av (.d (rowsD 1 ts.length [.ints .u8 ts]))), (sl 3, .av (.loc 3 0)), (sl 7, .av (iv .i64 (g.lat.length))), (sl 8, .av (.own 46 g.lat.length)), (bk 3, .blk (.data g.ds)), (bk 46, .blk (.app 1 g.lat.length [.ints .i64 (idT g.lat.length g.lat.length)])), (sl 10, .av (.loc 10 0)), (bk 10, .blk (.cells [.own 57 g.lat.length, .own 61 g.es.length])), (bk 57, .blk (.app 1 g.lat.length [.ints .i64 (List.replicate g.lat.length 0)])), (bk 61, .blk (.app 4 g.es.length (edgCols g.es)))]) ?_ (St.le_cons rfl (St.le_cons rfl (St.le_cons rfl (St.le_cons rfl (St.le_cons rfl (St.le_cons rfl (St.le_cons rfl (St.le_cons rfl (St.le_cons (by rw [show 0 + g.es.length = g.es.length by omega]; rfl) (St.le_cons rfl (St.le_cons (by rw [show 0 + g.es.length = g.es.length by omega]; rfl) (St.le_nil _))))))))))))
        apply WPA.region
        · apply Trace.pu [] (.assign (.plain rfl))
          exact .nil _
        · exact keepOK_of hk hn rfl
        apply WPA.block
        refine WPA.loop (σ := Nat × List Int × List Edg) (fun y => [(sl 1, .av (iv .i64 (fr))), (sl 2, .av (.d (rowsD 1 ts.length [.ints .u8 ts]))), (sl 3, .av (.loc 3 0)), (sl 7, .av (iv .i64 (g.lat.length))), (sl 8, .av (.own 46 g.lat.length)), (bk 3, .blk (.data g.ds)), (bk 46, .blk (.app 1 g.lat.length [.ints .i64 (y.2.1)])), (sl 10, .av (.loc 10 0)), (bk 10, .blk (.cells [.own 57 g.lat.length, .own 61 g.es.length])), (bk 57, .blk (.app 1 g.lat.length [.ints .i64 (List.replicate g.lat.length 0)])), (bk 61, .blk (.app 4 g.es.length (edgCols y.2.2))), (sl 11, .av (iv .i64 (y.1)))]) (fun y => y.1 ≤ ts.length ∧ PermN g.lat.length y.2.1 ∧ y.2.2.length = g.es.length ∧ ∀ e, e ∈ y.2.2 ↔ e ∈ g.es) (fun y => ts.length - y.1) (0, idT g.lat.length g.lat.length, g.es) (St.le_cons rfl (St.le_cons rfl (St.le_cons rfl (St.le_cons rfl (St.le_cons rfl (St.le_cons rfl (St.le_cons rfl (St.le_cons rfl (St.le_cons rfl (St.le_cons rfl (St.le_cons rfl (St.le_cons rfl (St.le_nil _))))))))))))) ⟨Nat.zero_le _, permN_id _, rfl, fun e => Iff.rfl⟩ fun y hy => ?_
        obtain ⟨i, num, es⟩ := y
        obtain ⟨hi, hP, hel, hem⟩ := hy
        have hi : i ≤ ts.length := hi
        have hP : PermN g.lat.length num := hP
        have hel : es.length = g.es.length := hel
        have hem : ∀ e, e ∈ es ↔ e ∈ g.es := hem
        have hPl := hP.len
        apply WPA.seq
        apply WPA.seq
        apply WPA.region
        · apply Trace.pu [] (.move (.plain rfl))
          apply Trace.pu [] (.move (.plain rfl))
          apply Trace.pu [] (.len rfl Try.underlying38 (.plain rfl) rfl)
          apply Trace.pu [] (.cmp (.plain rfl) (.plain rfl) rfl)
          exact .nil _
        · exact keepOK_of hk hn rfl
        refine WPA.cond rfl (fun hc4 => ?_) (fun hc4 => ?_)
        · have hlt : i < ts.length := by simpa using hc4
          have htb0 := hts (ts.getD i 0) (by rw [getD_lt _ _ hlt]; exact List.getElem_mem _)
          obtain ⟨tv, htv⟩ : ∃ tv : Nat, ts.getD i 0 = (tv : Int) := ⟨(ts.getD i 0).toNat, by omega⟩
          have htv2 : ts.getD ((i : Nat) : Int).toNat 0 = (tv : Int) := htv
          have htb : tv ≤ 255 := by omega
          apply WPA.skip
          apply WPA.seq
          apply WPA.block
          apply WPA.seq
          apply WPA.seq
          apply WPA.region
          · apply Trace.pu [] (.move (.plain rfl))
            apply Trace.pu [] (.cmp (.plain rfl) (.plain rfl) rfl)
            exact .nil _
          · exact keepOK_of hk hn rfl
          refine WPA.cond rfl (fun hc5 => ?_) (fun hc5 => ?_)
          · have hnp : 0 < g.lat.length := by
              have h9 : (0 : Int) < g.lat.length := by simpa using hc5
              omega
            obtain ⟨a0, ha0⟩ : ∃ a0, i % g.lat.length = a0 := ⟨_, rfl⟩
            obtain ⟨b0, hb0⟩ : ∃ b0, tv % g.lat.length = b0 := ⟨_, rfl⟩
            have ha0n : a0 < g.lat.length := by rw [← ha0]; exact Nat.mod_lt _ hnp
            have hb0n : b0 < g.lat.length := by rw [← hb0]; exact Nat.mod_lt _ hnp
            obtain ⟨num', hnum, hP'⟩ : ∃ num', swp num a0 b0 = num' ∧ PermN g.lat.length num' := ⟨_, rfl, permN_swp hP ha0n hb0n⟩
            apply WPA.seq
            apply WPA.region
            · apply Trace.pu [] (.move (.plain rfl))
              apply Trace.pu [] (.move (.plain rfl))
              apply Trace.pu [] ((Pure.rem (.plain rfl) (.plain rfl) (fun _ => by omega)).to (y := iv .i64 (a0 : Nat)) (by rw [← Int.ofNat_tmod, ha0]))
              apply Trace.pu [] (.assign (.plain rfl))
              exact .nil _
            · exact keepOK_of hk hn rfl
            apply WPA.seq
            apply WPA.region
            · apply Trace.pu [] (.move (.plain rfl))
              apply Trace.pu [] (.move (.plain rfl))
              first | apply Trace.pu [] (.indexRows el38 (.plain rfl) (.plain rfl) (fun _ => ⟨by omega, by omega⟩)) | apply Trace.pu [] (.indexOwn el38 (.plain rfl) (.plain rfl) (fun _ => ⟨by omega, by omega⟩)) | apply Trace.pu [] (.indexSl el38 (.plain rfl) (.plain rfl) (fun _ => ⟨by omega, by omega⟩))
              first | apply Trace.pu [_] (.loadLoc1D ty5 (.plain rfl) rfl rfl) | apply Trace.pu [_] (.loadLoc1 ty5 (.plain rfl) rfl rfl) | apply Trace.pu [] (.loadRp1 ty5 (.plain rfl) rfl) | apply Trace.pu [_] (.loadCol1 ty5 (.plain rfl) rfl rfl rfl (fun _ => by omega))
              apply Trace.pu [] ((Pure.conv Try.underlying5 Try.underlying3 (.plain rfl)).to (y := iv .i64 (tv : Nat)) (by rw [htv2, wrapI (by omega)]))
              apply Trace.pu [] (.move (.plain rfl))
              apply Trace.pu [] ((Pure.rem (.plain rfl) (.plain rfl) (fun _ => by omega)).to (y := iv .i64 (b0 : Nat)) (by rw [← Int.ofNat_tmod, hb0]))
              apply Trace.pu [] (.assign (.plain rfl))
              exact .nil _
            · exact keepOK_of hk hn rfl
            apply WPA.seq
            apply WPA.region
            · apply Trace.pu [] (.move (.plain rfl))
              apply Trace.pu [] (.move (.plain rfl))
              first | apply Trace.pu [] (.indexRows el22 (.plain rfl) (.plain rfl) (fun _ => ⟨by omega, by omega⟩)) | apply Trace.pu [] (.indexOwn el22 (.plain rfl) (.plain rfl) (fun _ => ⟨by omega, by omega⟩)) | apply Trace.pu [] (.indexSl el22 (.plain rfl) (.plain rfl) (fun _ => ⟨by omega, by omega⟩))
              first | apply Trace.pu [_] (.loadLoc1D ty3 (.plain rfl) rfl rfl) | apply Trace.pu [_] (.loadLoc1 ty3 (.plain rfl) rfl rfl) | apply Trace.pu [] (.loadRp1 ty3 (.plain rfl) rfl) | apply Trace.pu [_] (.loadCol1 ty3 (.plain rfl) rfl rfl rfl (fun _ => by omega))
              apply Trace.pu [] (.assign (.plain rfl))
              exact .nil _
            · exact keepOK_of hk hn rfl
            apply WPA.seq
            apply WPA.region
            · apply Trace.pu [] (.move (.plain rfl))
              apply Trace.pu [] (.move (.plain rfl))
              apply Trace.pu [] (.move (.plain rfl))
              apply Trace.pu [] (.move (.plain rfl))
              first | apply Trace.pu [] (.indexRows el22 (.plain rfl) (.plain rfl) (fun _ => ⟨by omega, by omega⟩)) | apply Trace.pu [] (.indexOwn el22 (.plain rfl) (.plain rfl) (fun _ => ⟨by omega, by omega⟩)) | apply Trace.pu [] (.indexSl el22 (.plain rfl) (.plain rfl) (fun _ => ⟨by omega, by omega⟩))
              first | apply Trace.pu [_] (.loadLoc1D ty3 (.plain rfl) rfl rfl) | apply Trace.pu [_] (.loadLoc1 ty3 (.plain rfl) rfl rfl) | apply Trace.pu [] (.loadRp1 ty3 (.plain rfl) rfl) | apply Trace.pu [_] (.loadCol1 ty3 (.plain rfl) rfl rfl rfl (fun _ => by omega))
              first | apply Trace.pu [] (.indexRows el22 (.plain rfl) (.plain rfl) (fun _ => ⟨by omega, by omega⟩)) | apply Trace.pu [] (.indexOwn el22 (.plain rfl) (.plain rfl) (fun _ => ⟨by omega, by omega⟩)) | apply Trace.pu [] (.indexSl el22 (.plain rfl) (.plain rfl) (fun _ => ⟨by omega, by omega⟩))
              first | apply Trace.storeD ty3 (.plain rfl) (.plain rfl) rfl rfl rfl (by simp [AV.oneB, single]) (Nat.le_of_ble_eq_true rfl) rfl | apply Trace.storeDA ty3 (.plain rfl) (.plain rfl) rfl rfl rfl (by simp [AV.oneB, single]) (Nat.le_of_ble_eq_true rfl) rfl | apply Trace.storeLoc ty3 (.plain rfl) (.plain rfl) rfl rfl rfl (by simp [AV.oneB, single]) (Nat.le_of_ble_eq_true rfl) rfl | apply Trace.storeRow ty3 (.plain rfl) (.plain rfl) rfl rfl rfl rfl (by decide) (by simp [AV.oneB, single]) rfl (by omega)
              exact .nil _
            · exact keepOK_of hk hn rfl
            apply WPA.region
            · apply Trace.pu [] (.move (.plain rfl))
              apply Trace.pu [] (.move (.plain rfl))
              apply Trace.pu [] (.move (.plain rfl))
              first | apply Trace.pu [] (.indexRows el22 (.plain rfl) (.plain rfl) (fun _ => ⟨by omega, by omega⟩)) | apply Trace.pu [] (.indexOwn el22 (.plain rfl) (.plain rfl) (fun _ => ⟨by omega, by omega⟩)) | apply Trace.pu [] (.indexSl el22 (.plain rfl) (.plain rfl) (fun _ => ⟨by omega, by omega⟩))
              first | apply Trace.storeD ty3 (.plain rfl) (.plain rfl) rfl rfl rfl (by simp [AV.oneB, single]) (Nat.le_of_ble_eq_true rfl) rfl | apply Trace.storeDA ty3 (.plain rfl) (.plain rfl) rfl rfl rfl (by simp [AV.oneB, single]) (Nat.le_of_ble_eq_true rfl) rfl | apply Trace.storeLoc ty3 (.plain rfl) (.plain rfl) rfl rfl rfl (by simp [AV.oneB, single]) (Nat.le_of_ble_eq_true rfl) rfl | apply Trace.storeRow ty3 (.plain rfl) (.plain rfl) rfl rfl rfl rfl (by decide) (by simp [AV.oneB, single]) rfl (by omega)
              exact .nil _
            · exact keepOK_of hk hn rfl
            apply WPA.seq
            refine WPA.weaken (T := [(sl 1, .av (iv .i64 (fr))), (sl 2, .av (.d (rowsD 1 ts.length [.ints .u8 ts]))), (sl 3, .av (.loc 3 0)), (sl 7, .av (iv .i64 (g.lat.length))), (sl 8, .av (.own 46 g.lat.length)), (bk 3, .blk (.data g.ds)), (bk 46, .blk (.app 1 g.lat.length [.ints .i64 (num')])), (sl 10, .av (.loc 10 0)), (bk 10, .blk (.cells [.own 57 g.lat.length, .own 61 g.es.length])), (bk 57, .blk (.app 1 g.lat.length [.ints .i64 (List.replicate g.lat.length 0)])), (bk 61, .blk (.app 4 g.es.length (edgCols es))), (sl 11, .av (iv .i64 (i)))]) ?_ (St.le_cons rfl (St.le_cons rfl (St.le_cons rfl (St.le_cons rfl (St.le_cons rfl (St.le_cons rfl (St.le_cons (by rw [← hnum]; rfl) (St.le_cons rfl (St.le_cons rfl (St.le_cons rfl (St.le_cons rfl (St.le_cons rfl (St.le_nil _)))))))))))))
            apply WPA.region
            · apply Trace.pu [] (.fieldAddr fl25_1 (.plain rfl) rfl)
              first | apply Trace.pu [_] (.loadLoc1D ty23 (.plain rfl) rfl rfl) | apply Trace.pu [_] (.loadLoc1 ty23 (.plain rfl) rfl rfl) | apply Trace.pu [] (.loadRp1 ty23 (.plain rfl) rfl) | apply Trace.pu [_] (.loadCol1 ty23 (.plain rfl) rfl rfl rfl (fun _ => by omega))
              apply Trace.pu [] (.len rfl Try.underlying23 (.plain rfl) rfl)
              apply Trace.pu [] (.cmp (.plain rfl) (.plain rfl) rfl)
              exact .nil _
            · exact keepOK_of hk hn rfl
            refine WPA.cond rfl (fun hc6 => ?_) (fun hc6 => ?_)
            · have hmp : 0 < g.es.length := by
                have h9 : (0 : Int) < g.es.length := by simpa using hc6
                omega
              obtain ⟨a1, ha1⟩ : ∃ a1, i % g.es.length = a1 := ⟨_, rfl⟩
              obtain ⟨b1, hb1⟩ : ∃ b1, tv % g.es.length = b1 := ⟨_, rfl⟩
              have ha1m : a1 < g.es.length := by rw [← ha1]; exact Nat.mod_lt _ hmp
              have hb1m : b1 < g.es.length := by rw [← hb1]; exact Nat.mod_lt _ hmp
              obtain ⟨e1, he1⟩ : ∃ e1, es.getD a1 default = e1 := ⟨_, rfl⟩
              obtain ⟨e2, he2⟩ : ∃ e2, es.getD b1 default = e2 := ⟨_, rfl⟩
              obtain ⟨es', hes', hel', hem'⟩ : ∃ es', swpE es a1 b1 = es' ∧ es'.length = g.es.length ∧ ∀ e, e ∈ es' ↔ e ∈ g.es := ⟨_, rfl, by rw [swpE_len, hel], fun e => by rw [mem_swpE (by omega) (by omega)]; exact hem e⟩
              have hcol : [Col.ints .i64 (((es.map (·.f)).set a1 e2.f).set b1 e1.f), .ints .i64 (((es.map (·.t)).set a1 e2.t).set b1 e1.t), .ints .i64 (((es.map (·.w)).set a1 e2.w).set b1 e1.w), .ints .i64 (((es.map (·.d)).set a1 e2.d).set b1 e1.d)] = edgCols es' := by
                rw [← hes']; unfold swpE; rw [he1, he2]
                simp only [edgCols, List.map_set]
              apply WPA.seq
              apply WPA.region
              · apply Trace.pu [] (.move (.plain rfl))
                apply Trace.pu [] (.fieldAddr fl25_1 (.plain rfl) rfl)
                first | apply Trace.pu [_] (.loadLoc1D ty23 (.plain rfl) rfl rfl) | apply Trace.pu [_] (.loadLoc1 ty23 (.plain rfl) rfl rfl) | apply Trace.pu [] (.loadRp1 ty23 (.plain rfl) rfl) | apply Trace.pu [_] (.loadCol1 ty23 (.plain rfl) rfl rfl rfl (fun _ => by omega))
                apply Trace.pu [] (.len rfl Try.underlying23 (.plain rfl) rfl)
                apply Trace.pu [] ((Pure.rem (.plain rfl) (.plain rfl) (fun _ => by omega)).to (y := iv .i64 (a1 : Nat)) (by rw [← Int.ofNat_tmod, ha1]))
                apply Trace.pu [] (.assign (.plain rfl))
                exact .nil _
              · exact keepOK_of hk hn rfl
              apply WPA.seq
              apply WPA.draw mixed
              · apply Trace.pu [] (.move (.plain rfl))
                apply Trace.pu [] (.move (.plain rfl))
                first | apply Trace.pu [] (.indexRows el38 (.plain rfl) (.plain rfl) (fun _ => ⟨by omega, by omega⟩)) | apply Trace.pu [] (.indexOwn el38 (.plain rfl) (.plain rfl) (fun _ => ⟨by omega, by omega⟩)) | apply Trace.pu [] (.indexSl el38 (.plain rfl) (.plain rfl) (fun _ => ⟨by omega, by omega⟩))
                first | apply Trace.pu [_] (.loadLoc1D ty5 (.plain rfl) rfl rfl) | apply Trace.pu [_] (.loadLoc1 ty5 (.plain rfl) rfl rfl) | apply Trace.pu [] (.loadRp1 ty5 (.plain rfl) rfl) | apply Trace.pu [_] (.loadCol1 ty5 (.plain rfl) rfl rfl rfl (fun _ => by omega))
                apply Trace.pu [] ((Pure.conv Try.underlying5 Try.underlying3 (.plain rfl)).to (y := iv .i64 (tv : Nat)) (by rw [htv2, wrapI (by omega)]))
                apply Trace.pu [] (.fieldAddr fl25_1 (.plain rfl) rfl)
                first | apply Trace.pu [_] (.loadLoc1D ty23 (.plain rfl) rfl rfl) | apply Trace.pu [_] (.loadLoc1 ty23 (.plain rfl) rfl rfl) | apply Trace.pu [] (.loadRp1 ty23 (.plain rfl) rfl) | apply Trace.pu [_] (.loadCol1 ty23 (.plain rfl) rfl rfl rfl (fun _ => by omega))
                apply Trace.pu [] (.len rfl Try.underlying23 (.plain rfl) rfl)
                apply Trace.pu [] ((Pure.rem (.plain rfl) (.plain rfl) (fun _ => by omega)).to (y := iv .i64 (b1 : Nat)) (by rw [← Int.ofNat_tmod, hb1]))
                apply Trace.pu [] (.assign (.plain rfl))
                exact .nil _
              · rfl
              · exact keepOK_of hk hn rfl
              apply WPA.seq
              apply WPA.region
              · apply Trace.pu [] (.fieldAddr fl25_1 (.plain rfl) rfl)
                first | apply Trace.pu [_] (.loadLoc1D ty23 (.plain rfl) rfl rfl) | apply Trace.pu [_] (.loadLoc1 ty23 (.plain rfl) rfl rfl) | apply Trace.pu [] (.loadRp1 ty23 (.plain rfl) rfl) | apply Trace.pu [_] (.loadCol1 ty23 (.plain rfl) rfl rfl rfl (fun _ => by omega))
                apply Trace.pu [] (.move (.plain rfl))
                first | apply Trace.pu [] (.indexRows el23 (.plain rfl) (.plain rfl) (fun _ => ⟨by omega, by omega⟩)) | apply Trace.pu [] (.indexOwn el23 (.plain rfl) (.plain rfl) (fun _ => ⟨by omega, by omega⟩)) | apply Trace.pu [] (.indexSl el23 (.plain rfl) (.plain rfl) (fun _ => ⟨by omega, by omega⟩))
                apply Trace.pu [61] ((Pure.loadCol ty40 (.plain rfl) rfl rfl (fun _ => Nat.le_of_ble_eq_true rfl) (fun _ => by omega)).to (y := .d (.agg e1.ds)) (by show AV.d (.agg ((edgCols es).map (Col.at · a1))) = _; rw [edg_row (by omega), he1]))
                apply Trace.alloc 17 [] (.data _) zo40 (cellsAs_data _) rfl
                first | apply Trace.storeD ty40 (.plain rfl) (.plain rfl) rfl rfl (by simp) (by simp [AV.oneB, single]) (by simp) (spliceL_all (by simp)) | apply Trace.storeD ty40 (.plain rfl) (.plain rfl) rfl rfl (by simp) (by simp [AV.oneB, single]) (by simp) rfl | apply Trace.storeDA ty40 (.plain rfl) (.plain rfl) rfl rfl (by simp) (by simp [AV.oneB, single]) (by simp) rfl | apply Trace.storeLoc ty40 (.plain rfl) (.plain rfl) rfl rfl (by simp) (by simp [AV.oneB, single]) (by simp) rfl | apply Trace.storeRow ty40 (.plain rfl) (.plain rfl) rfl rfl rfl rfl (by decide) (by simp [AV.oneB, single]) rfl (by omega)
                exact .nil _
              · exact keepOK_of hk hn rfl
              apply WPA.seq
              apply WPA.draw mixed
              · apply Trace.pu [] (.fieldAddr fl25_1 (.plain rfl) rfl)
                first | apply Trace.pu [_] (.loadLoc1D ty23 (.plain rfl) rfl rfl) | apply Trace.pu [_] (.loadLoc1 ty23 (.plain rfl) rfl rfl) | apply Trace.pu [] (.loadRp1 ty23 (.plain rfl) rfl) | apply Trace.pu [_] (.loadCol1 ty23 (.plain rfl) rfl rfl rfl (fun _ => by omega))
                apply Trace.pu [] (.move (.plain rfl))
                apply Trace.pu [] (.fieldAddr fl25_1 (.plain rfl) rfl)
                first | apply Trace.pu [_] (.loadLoc1D ty23 (.plain rfl) rfl rfl) | apply Trace.pu [_] (.loadLoc1 ty23 (.plain rfl) rfl rfl) | apply Trace.pu [] (.loadRp1 ty23 (.plain rfl) rfl) | apply Trace.pu [_] (.loadCol1 ty23 (.plain rfl) rfl rfl rfl (fun _ => by omega))
                apply Trace.pu [] (.move (.plain rfl))
                first | apply Trace.pu [] (.indexRows el23 (.plain rfl) (.plain rfl) (fun _ => ⟨by omega, by omega⟩)) | apply Trace.pu [] (.indexOwn el23 (.plain rfl) (.plain rfl) (fun _ => ⟨by omega, by omega⟩)) | apply Trace.pu [] (.indexSl el23 (.plain rfl) (.plain rfl) (fun _ => ⟨by omega, by omega⟩))
                apply Trace.pu [61] ((Pure.loadCol ty40 (.plain rfl) rfl rfl (fun _ => Nat.le_of_ble_eq_true rfl) (fun _ => by omega)).to (y := .d (.agg e2.ds)) (by show AV.d (.agg ((edgCols es).map (Col.at · b1))) = _; rw [edg_row (by omega), he2]))
                first | apply Trace.pu [] (.indexRows el23 (.plain rfl) (.plain rfl) (fun _ => ⟨by omega, by omega⟩)) | apply Trace.pu [] (.indexOwn el23 (.plain rfl) (.plain rfl) (fun _ => ⟨by omega, by omega⟩)) | apply Trace.pu [] (.indexSl el23 (.plain rfl) (.plain rfl) (fun _ => ⟨by omega, by omega⟩))
                apply Trace.storeRow ty40 (.plain rfl) (.plain rfl) rfl rfl rfl rfl (by decide) (by simp [AV.oneB, single]) rfl (by omega)
                exact .nil _
              · rfl
              · exact keepOK_of hk hn rfl
              apply WPA.region
              · apply Trace.pu [] (.fieldAddr fl25_1 (.plain rfl) rfl)
                first | apply Trace.pu [_] (.loadLoc1D ty23 (.plain rfl) rfl rfl) | apply Trace.pu [_] (.loadLoc1 ty23 (.plain rfl) rfl rfl) | apply Trace.pu [] (.loadRp1 ty23 (.plain rfl) rfl) | apply Trace.pu [_] (.loadCol1 ty23 (.plain rfl) rfl rfl rfl (fun _ => by omega))
                apply Trace.pu [] (.move (.plain rfl))
                first | apply Trace.pu [_] (.loadAllD ty40 (.plain rfl) rfl (by simp)) | apply Trace.pu [_] (.loadLocD ty40 (.plain rfl) rfl (fun _ => by simp)) | apply Trace.pu [_] (.loadLoc ty40 (.plain rfl) rfl (fun _ => Nat.le_of_ble_eq_true rfl)) | apply Trace.pu [] (.loadRp ty40 (.plain rfl) (fun _ => by decide)) | apply Trace.pu [] (.loadRp ty40 (.plain rfl) (fun _ => Nat.le_of_ble_eq_true rfl)) | apply Trace.pu [_] (.loadCol ty40 (.plain rfl) rfl rfl (fun _ => by decide) (fun _ => by omega)) | apply Trace.pu [_] (.loadArr ty40 (.plain rfl) rfl)
                first | apply Trace.pu [] (.indexRows el23 (.plain rfl) (.plain rfl) (fun _ => ⟨by omega, by omega⟩)) | apply Trace.pu [] (.indexOwn el23 (.plain rfl) (.plain rfl) (fun _ => ⟨by omega, by omega⟩)) | apply Trace.pu [] (.indexSl el23 (.plain rfl) (.plain rfl) (fun _ => ⟨by omega, by omega⟩))
                apply Trace.storeRow ty40 (.plain rfl) (.plain rfl) rfl rfl rfl rfl (by decide) (by simp [AV.oneB, single]) rfl (by omega)
                exact .nil _
              · exact keepOK_of hk hn rfl
              apply WPA.region
              · apply Trace.pu [] (.move (.plain rfl))
                apply Trace.pu [] (.arith (.plain rfl) (.plain rfl) rfl (fun _ => bd64 (by omega)))
                apply Trace.pu [] (.assign (.plain rfl))
                exact .nil _
              · exact keepOK_of hk hn rfl
              exact ⟨(i + 1, num', es'), ⟨by show i + 1 ≤ _; omega, hP', hel', hem'⟩, by show ts.length - (i + 1) < ts.length - i; omega, St.le_cons rfl (St.le_cons rfl (St.le_cons rfl (St.le_cons rfl (St.le_cons rfl (St.le_cons rfl (St.le_cons rfl (St.le_cons rfl (St.le_cons rfl (St.le_cons rfl (St.le_cons (by rw [← hcol]; rfl) (St.le_cons (slI (by omega)) (St.le_nil _))))))))))))⟩
            · obtain ⟨es', hes', hel', hem'⟩ : ∃ es', es = es' ∧ es'.length = g.es.length ∧ ∀ e, e ∈ es' ↔ e ∈ g.es := ⟨_, rfl, hel, hem⟩
              have hcol : edgCols es = edgCols es' := by rw [hes']
              apply WPA.skip
              apply WPA.region
              · apply Trace.pu [] (.move (.plain rfl))
                apply Trace.pu [] (.arith (.plain rfl) (.plain rfl) rfl (fun _ => bd64 (by omega)))
                apply Trace.pu [] (.assign (.plain rfl))
                exact .nil _
              · exact keepOK_of hk hn rfl
              exact ⟨(i + 1, num', es'), ⟨by show i + 1 ≤ _; omega, hP', hel', hem'⟩, by show ts.length - (i + 1) < ts.length - i; omega, St.le_cons rfl (St.le_cons rfl (St.le_cons rfl (St.le_cons rfl (St.le_cons rfl (St.le_cons rfl (St.le_cons rfl (St.le_cons rfl (St.le_cons rfl (St.le_cons rfl (St.le_cons (by rw [← hcol]; rfl) (St.le_cons (slI (by omega)) (St.le_nil _))))))))))))⟩
          · obtain ⟨num', hnum, hP'⟩ : ∃ num', num = num' ∧ PermN g.lat.length num' := ⟨_, rfl, hP⟩
            apply WPA.skip
            apply WPA.seq
            refine WPA.weaken (T := [(sl 1, .av (iv .i64 (fr))), (sl 2, .av (.d (rowsD 1 ts.length [.ints .u8 ts]))), (sl 3, .av (.loc 3 0)), (sl 7, .av (iv .i64 (g.lat.length))), (sl 8, .av (.own 46 g.lat.length)), (bk 3, .blk (.data g.ds)), (bk 46, .blk (.app 1 g.lat.length [.ints .i64 (num')])), (sl 10, .av (.loc 10 0)), (bk 10, .blk (.cells [.own 57 g.lat.length, .own 61 g.es.length])), (bk 57, .blk (.app 1 g.lat.length [.ints .i64 (List.replicate g.lat.length 0)])), (bk 61, .blk (.app 4 g.es.length (edgCols es))), (sl 11, .av (iv .i64 (i)))]) ?_ (St.le_cons rfl (St.le_cons rfl (St.le_cons rfl (St.le_cons rfl (St.le_cons rfl (St.le_cons rfl (St.le_cons (by rw [← hnum]; rfl) (St.le_cons rfl (St.le_cons rfl (St.le_cons rfl (St.le_cons rfl (St.le_cons rfl (St.le_nil _)))))))))))))
            apply WPA.region
            · apply Trace.pu [] (.fieldAddr fl25_1 (.plain rfl) rfl)
              first | apply Trace.pu [_] (.loadLoc1D ty23 (.plain rfl) rfl rfl) | apply Trace.pu [_] (.loadLoc1 ty23 (.plain rfl) rfl rfl) | apply Trace.pu [] (.loadRp1 ty23 (.plain rfl) rfl) | apply Trace.pu [_] (.loadCol1 ty23 (.plain rfl) rfl rfl rfl (fun _ => by omega))
              apply Trace.pu [] (.len rfl Try.underlying23 (.plain rfl) rfl)
              apply Trace.pu [] (.cmp (.plain rfl) (.plain rfl) rfl)
              exact .nil _
            · exact keepOK_of hk hn rfl
            refine WPA.cond rfl (fun hc7 => ?_) (fun hc7 => ?_)
            · have hmp : 0 < g.es.length := by
                have h9 : (0 : Int) < g.es.length := by simpa using hc7
                omega
              obtain ⟨a1, ha1⟩ : ∃ a1, i % g.es.length = a1 := ⟨_, rfl⟩
              obtain ⟨b1, hb1⟩ : ∃ b1, tv % g.es.length = b1 := ⟨_, rfl⟩
              have ha1m : a1 < g.es.length := by rw [← ha1]; exact Nat.mod_lt _ hmp
              have hb1m : b1 < g.es.length := by rw [← hb1]; exact Nat.mod_lt _ hmp
              obtain ⟨e1, he1⟩ : ∃ e1, es.getD a1 default = e1 := ⟨_, rfl⟩
              obtain ⟨e2, he2⟩ : ∃ e2, es.getD b1 default = e2 := ⟨_, rfl⟩
              obtain ⟨es', hes', hel', hem'⟩ : ∃ es', swpE es a1 b1 = es' ∧ es'.length = g.es.length ∧ ∀ e, e ∈ es' ↔ e ∈ g.es := ⟨_, rfl, by rw [swpE_len, hel], fun e => by rw [mem_swpE (by omega) (by omega)]; exact hem e⟩
              have hcol : [Col.ints .i64 (((es.map (·.f)).set a1 e2.f).set b1 e1.f), .ints .i64 (((es.map (·.t)).set a1 e2.t).set b1 e1.t), .ints .i64 (((es.map (·.w)).set a1 e2.w).set b1 e1.w), .ints .i64 (((es.map (·.d)).set a1 e2.d).set b1 e1.d)] = edgCols es' := by
                rw [← hes']; unfold swpE; rw [he1, he2]
                simp only [edgCols, List.map_set]
              apply WPA.seq
              apply WPA.region
              · apply Trace.pu [] (.move (.plain rfl))
                apply Trace.pu [] (.fieldAddr fl25_1 (.plain rfl) rfl)
                first | apply Trace.pu [_] (.loadLoc1D ty23 (.plain rfl) rfl rfl) | apply Trace.pu [_] (.loadLoc1 ty23 (.plain rfl) rfl rfl) | apply Trace.pu [] (.loadRp1 ty23 (.plain rfl) rfl) | apply Trace.pu [_] (.loadCol1 ty23 (.plain rfl) rfl rfl rfl (fun _ => by omega))
                apply Trace.pu [] (.len rfl Try.underlying23 (.plain rfl) rfl)
                apply Trace.pu [] ((Pure.rem (.plain rfl) (.plain rfl) (fun _ => by omega)).to (y := iv .i64 (a1 : Nat)) (by rw [← Int.ofNat_tmod, ha1]))
                apply Trace.pu [] (.assign (.plain rfl))
                exact .nil _
              · exact keepOK_of hk hn rfl
              apply WPA.seq
              apply WPA.draw mixed
              · apply Trace.pu [] (.move (.plain rfl))
                apply Trace.pu [] (.move (.plain rfl))
                first | apply Trace.pu [] (.indexRows el38 (.plain rfl) (.plain rfl) (fun _ => ⟨by omega, by omega⟩)) | apply Trace.pu [] (.indexOwn el38 (.plain rfl) (.plain rfl) (fun _ => ⟨by omega, by omega⟩)) | apply Trace.pu [] (.indexSl el38 (.plain rfl) (.plain rfl) (fun _ => ⟨by omega, by omega⟩))
                first | apply Trace.pu [_] (.loadLoc1D ty5 (.plain rfl) rfl rfl) | apply Trace.pu [_] (.loadLoc1 ty5 (.plain rfl) rfl rfl) | apply Trace.pu [] (.loadRp1 ty5 (.plain rfl) rfl) | apply Trace.pu [_] (.loadCol1 ty5 (.plain rfl) rfl rfl rfl (fun _ => by omega))
                apply Trace.pu [] ((Pure.conv Try.underlying5 Try.underlying3 (.plain rfl)).to (y := iv .i64 (tv : Nat)) (by rw [htv2, wrapI (by omega)]))
                apply Trace.pu [] (.fieldAddr fl25_1 (.plain rfl) rfl)
                first | apply Trace.pu [_] (.loadLoc1D ty23 (.plain rfl) rfl rfl) | apply Trace.pu [_] (.loadLoc1 ty23 (.plain rfl) rfl rfl) | apply Trace.pu [] (.loadRp1 ty23 (.plain rfl) rfl) | apply Trace.pu [_] (.loadCol1 ty23 (.plain rfl) rfl rfl rfl (fun _ => by omega))
                apply Trace.pu [] (.len rfl Try.underlying23 (.plain rfl) rfl)
                apply Trace.pu [] ((Pure.rem (.plain rfl) (.plain rfl) (fun _ => by omega)).to (y := iv .i64 (b1 : Nat)) (by rw [← Int.ofNat_tmod, hb1]))
                apply Trace.pu [] (.assign (.plain rfl))
                exact .nil _
              · rfl
              · exact keepOK_of hk hn rfl
              apply WPA.seq
              apply WPA.region
              · apply Trace.pu [] (.fieldAddr fl25_1 (.plain rfl) rfl)
                first | apply Trace.pu [_] (.loadLoc1D ty23 (.plain rfl) rfl rfl) | apply Trace.pu [_] (.loadLoc1 ty23 (.plain rfl) rfl rfl) | apply Trace.pu [] (.loadRp1 ty23 (.plain rfl) rfl) | apply Trace.pu [_] (.loadCol1 ty23 (.plain rfl) rfl rfl rfl (fun _ => by omega))
                apply Trace.pu [] (.move (.plain rfl))
                first | apply Trace.pu [] (.indexRows el23 (.plain rfl) (.plain rfl) (fun _ => ⟨by omega, by omega⟩)) | apply Trace.pu [] (.indexOwn el23 (.plain rfl) (.plain rfl) (fun _ => ⟨by omega, by omega⟩)) | apply Trace.pu [] (.indexSl el23 (.plain rfl) (.plain rfl) (fun _ => ⟨by omega, by omega⟩))
                apply Trace.pu [61] ((Pure.loadCol ty40 (.plain rfl) rfl rfl (fun _ => Nat.le_of_ble_eq_true rfl) (fun _ => by omega)).to (y := .d (.agg e1.ds)) (by show AV.d (.agg ((edgCols es).map (Col.at · a1))) = _; rw [edg_row (by omega), he1]))
                apply Trace.alloc 17 [] (.data _) zo40 (cellsAs_data _) rfl
                first | apply Trace.storeD ty40 (.plain rfl) (.plain rfl) rfl rfl (by simp) (by simp [AV.oneB, single]) (by simp) (spliceL_all (by simp)) | apply Trace.storeD ty40 (.plain rfl) (.plain rfl) rfl rfl (by simp) (by simp [AV.oneB, single]) (by simp) rfl | apply Trace.storeDA ty40 (.plain rfl) (.plain rfl) rfl rfl (by simp) (by simp [AV.oneB, single]) (by simp) rfl | apply Trace.storeLoc ty40 (.plain rfl) (.plain rfl) rfl rfl (by simp) (by simp [AV.oneB, single]) (by simp) rfl | apply Trace.storeRow ty40 (.plain rfl) (.plain rfl) rfl rfl rfl rfl (by decide) (by simp [AV.oneB, single]) rfl (by omega)
                exact .nil _
              · exact keepOK_of hk hn rfl
              apply WPA.seq
              apply WPA.draw mixed
              · apply Trace.pu [] (.fieldAddr fl25_1 (.plain rfl) rfl)
                first | apply Trace.pu [_] (.loadLoc1D ty23 (.plain rfl) rfl rfl) | apply Trace.pu [_] (.loadLoc1 ty23 (.plain rfl) rfl rfl) | apply Trace.pu [] (.loadRp1 ty23 (.plain rfl) rfl) | apply Trace.pu [_] (.loadCol1 ty23 (.plain rfl) rfl rfl rfl (fun _ => by omega))
                apply Trace.pu [] (.move (.plain rfl))
                apply Trace.pu [] (.fieldAddr fl25_1 (.plain rfl) rfl)
                first | apply Trace.pu [_] (.loadLoc1D ty23 (.plain rfl) rfl rfl) | apply Trace.pu [_] (.loadLoc1 ty23 (.plain rfl) rfl rfl) | apply Trace.pu [] (.loadRp1 ty23 (.plain rfl) rfl) | apply Trace.pu [_] (.loadCol1 ty23 (.plain rfl) rfl rfl rfl (fun _ => by omega))
                apply Trace.pu [] (.move (.plain rfl))
                first | apply Trace.pu [] (.indexRows el23 (.plain rfl) (.plain rfl) (fun _ => ⟨by omega, by omega⟩)) | apply Trace.pu [] (.indexOwn el23 (.plain rfl) (.plain rfl) (fun _ => ⟨by omega, by omega⟩)) | apply Trace.pu [] (.indexSl el23 (.plain rfl) (.plain rfl) (fun _ => ⟨by omega, by omega⟩))
                apply Trace.pu [61] ((Pure.loadCol ty40 (.plain rfl) rfl rfl (fun _ => Nat.le_of_ble_eq_true rfl) (fun _ => by omega)).to (y := .d (.agg e2.ds)) (by show AV.d (.agg ((edgCols es).map (Col.at · b1))) = _; rw [edg_row (by omega), he2]))
                first | apply Trace.pu [] (.indexRows el23 (.plain rfl) (.plain rfl) (fun _ => ⟨by omega, by omega⟩)) | apply Trace.pu [] (.indexOwn el23 (.plain rfl) (.plain rfl) (fun _ => ⟨by omega, by omega⟩)) | apply Trace.pu [] (.indexSl el23 (.plain rfl) (.plain rfl) (fun _ => ⟨by omega, by omega⟩))
                apply Trace.storeRow ty40 (.plain rfl) (.plain rfl) rfl rfl rfl rfl (by decide) (by simp [AV.oneB, single]) rfl (by omega)
                exact .nil _
              · rfl
              · exact keepOK_of hk hn rfl
              apply WPA.region
              · apply Trace.pu [] (.fieldAddr fl25_1 (.plain rfl) rfl)
                first | apply Trace.pu [_] (.loadLoc1D ty23 (.plain rfl) rfl rfl) | apply Trace.pu [_] (.loadLoc1 ty23 (.plain rfl) rfl rfl) | apply Trace.pu [] (.loadRp1 ty23 (.plain rfl) rfl) | apply Trace.pu [_] (.loadCol1 ty23 (.plain rfl) rfl rfl rfl (fun _ => by omega))
                apply Trace.pu [] (.move (.plain rfl))
                first | apply Trace.pu [_] (.loadAllD ty40 (.plain rfl) rfl (by simp)) | apply Trace.pu [_] (.loadLocD ty40 (.plain rfl) rfl (fun _ => by simp)) | apply Trace.pu [_] (.loadLoc ty40 (.plain rfl) rfl (fun _ => Nat.le_of_ble_eq_true rfl)) | apply Trace.pu [] (.loadRp ty40 (.plain rfl) (fun _ => by decide)) | apply Trace.pu [] (.loadRp ty40 (.plain rfl) (fun _ => Nat.le_of_ble_eq_true rfl)) | apply Trace.pu [_] (.loadCol ty40 (.plain rfl) rfl rfl (fun _ => by decide) (fun _ => by omega)) | apply Trace.pu [_] (.loadArr ty40 (.plain rfl) rfl)
                first | apply Trace.pu [] (.indexRows el23 (.plain rfl) (.plain rfl) (fun _ => ⟨by omega, by omega⟩)) | apply Trace.pu [] (.indexOwn el23 (.plain rfl) (.plain rfl) (fun _ => ⟨by omega, by omega⟩)) | apply Trace.pu [] (.indexSl el23 (.plain rfl) (.plain rfl) (fun _ => ⟨by omega, by omega⟩))
                apply Trace.storeRow ty40 (.plain rfl) (.plain rfl) rfl rfl rfl rfl (by decide) (by simp [AV.oneB, single]) rfl (by omega)
                exact .nil _
              · exact keepOK_of hk hn rfl
              apply WPA.region
              · apply Trace.pu [] (.move (.plain rfl))
                apply Trace.pu [] (.arith (.plain rfl) (.plain rfl) rfl (fun _ => bd64 (by omega)))
                apply Trace.pu [] (.assign (.plain rfl))
                exact .nil _
              · exact keepOK_of hk hn rfl
              exact ⟨(i + 1, num', es'), ⟨by show i + 1 ≤ _; omega, hP', hel', hem'⟩, by show ts.length - (i + 1) < ts.length - i; omega, St.le_cons rfl (St.le_cons rfl (St.le_cons rfl (St.le_cons rfl (St.le_cons rfl (St.le_cons rfl (St.le_cons rfl (St.le_cons rfl (St.le_cons rfl (St.le_cons rfl (St.le_cons (by rw [← hcol]; rfl) (St.le_cons (slI (by omega)) (St.le_nil _))))))))))))⟩
            · obtain ⟨es', hes', hel', hem'⟩ : ∃ es', es = es' ∧ es'.length = g.es.length ∧ ∀ e, e ∈ es' ↔ e ∈ g.es := ⟨_, rfl, hel, hem⟩
              have hcol : edgCols es = edgCols es' := by rw [hes']
              apply WPA.skip
              apply WPA.region
              · apply Trace.pu [] (.move (.plain rfl))
                apply Trace.pu [] (.arith (.plain rfl) (.plain rfl) rfl (fun _ => bd64 (by omega)))
                apply Trace.pu [] (.assign (.plain rfl))
                exact .nil _
              · exact keepOK_of hk hn rfl
              exact ⟨(i + 1, num', es'), ⟨by show i + 1 ≤ _; omega, hP', hel', hem'⟩, by show ts.length - (i + 1) < ts.length - i; omega, St.le_cons rfl (St.le_cons rfl (St.le_cons rfl (St.le_cons rfl (St.le_cons rfl (St.le_cons rfl (St.le_cons rfl (St.le_cons rfl (St.le_cons rfl (St.le_cons rfl (St.le_cons (by rw [← hcol]; rfl) (St.le_cons (slI (by omega)) (St.le_nil _))))))))))))⟩
        · apply WPA.exit
          apply WPA.seq
          apply WPA.seq
          apply WPA.region
          · apply Trace.pu [] (.assign (.plain rfl))
            exact .nil _
          · exact keepOK_of hk hn rfl
          apply WPA.block
          refine WPA.loop (σ := Nat) (fun i => [(sl 1, .av (iv .i64 (fr))), (sl 2, .av (.d (rowsD 1 ts.length [.ints .u8 ts]))), (sl 3, .av (.loc 3 0)), (sl 7, .av (iv .i64 (g.lat.length))), (sl 8, .av (.own 46 g.lat.length)), (bk 3, .blk (.data g.ds)), (bk 46, .blk (.app 1 g.lat.length [.ints .i64 (num)])), (sl 10, .av (.loc 10 0)), (bk 10, .blk (.cells [.own 57 g.lat.length, .own 61 g.es.length])), (bk 57, .blk (.app 1 g.lat.length [.ints .i64 (latTo g.lat.length num g.lat i)])), (bk 61, .blk (.app 4 g.es.length (edgCols es))), (sl 18, .av (iv .i64 (i)))]) (fun i => i ≤ g.lat.length) (fun i => g.lat.length - i) 0
            (St.le_cons rfl (St.le_cons rfl (St.le_cons rfl (St.le_cons rfl (St.le_cons rfl (St.le_cons rfl (St.le_cons rfl (St.le_cons rfl (St.le_cons rfl (St.le_cons rfl (St.le_cons rfl (St.le_cons rfl (St.le_nil _))))))))))))) (Nat.zero_le _) fun i hi3 => ?_
          apply WPA.seq
          apply WPA.seq
          apply WPA.region
          · apply Trace.pu [] (.move (.plain rfl))
            apply Trace.pu [] (.move (.plain rfl))
            apply Trace.pu [] (.cmp (.plain rfl) (.plain rfl) rfl)
            exact .nil _
          · exact keepOK_of hk hn rfl
          refine WPA.cond rfl (fun hc8 => ?_) (fun hc8 => ?_)
          · have hlt : i < g.lat.length := by simpa using hc8
            have hll := latTo_len g.lat.length num g.lat i
            have hr := hP.rg i hlt
            have hr2 : 0 ≤ num.getD ((i : Nat) : Int).toNat 0 ∧ (num.getD ((i : Nat) : Int).toNat 0).toNat < g.lat.length := hr
            apply WPA.skip
            apply WPA.seq
            apply WPA.block
            apply WPA.draw mixed
            · apply Trace.pu [] (.fieldAddr fl25_0 (.plain rfl) rfl)
              first | apply Trace.pu [_] (.loadLoc1D ty22 (.plain rfl) rfl rfl) | apply Trace.pu [_] (.loadLoc1 ty22 (.plain rfl) rfl rfl) | apply Trace.pu [] (.loadRp1 ty22 (.plain rfl) rfl) | apply Trace.pu [_] (.loadCol1 ty22 (.plain rfl) rfl rfl rfl (fun _ => by omega))
              apply Trace.pu [] (.move (.plain rfl))
              apply Trace.pu [] (.move (.plain rfl))
              first | apply Trace.pu [] (.indexRows el22 (.plain rfl) (.plain rfl) (fun _ => ⟨by omega, by omega⟩)) | apply Trace.pu [] (.indexOwn el22 (.plain rfl) (.plain rfl) (fun _ => ⟨by omega, by omega⟩)) | apply Trace.pu [] (.indexSl el22 (.plain rfl) (.plain rfl) (fun _ => ⟨by omega, by omega⟩))
              first | apply Trace.pu [_] (.loadLoc1D ty3 (.plain rfl) rfl rfl) | apply Trace.pu [_] (.loadLoc1 ty3 (.plain rfl) rfl rfl) | apply Trace.pu [] (.loadRp1 ty3 (.plain rfl) rfl) | apply Trace.pu [_] (.loadCol1 ty3 (.plain rfl) rfl rfl rfl (fun _ => by omega))
              apply Trace.pu [] (.fieldAddr fl25_0 (.plain rfl) rfl)
              first | apply Trace.pu [_] (.loadLoc1D ty22 (.plain rfl) rfl rfl) | apply Trace.pu [_] (.loadLoc1 ty22 (.plain rfl) rfl rfl) | apply Trace.pu [] (.loadRp1 ty22 (.plain rfl) rfl) | apply Trace.pu [_] (.loadCol1 ty22 (.plain rfl) rfl rfl rfl (fun _ => by omega))
              apply Trace.pu [] (.move (.plain rfl))
              first | apply Trace.pu [] (.indexRows el22 (.plain rfl) (.plain rfl) (fun _ => ⟨by omega, by omega⟩)) | apply Trace.pu [] (.indexOwn el22 (.plain rfl) (.plain rfl) (fun _ => ⟨by omega, by omega⟩)) | apply Trace.pu [] (.indexSl el22 (.plain rfl) (.plain rfl) (fun _ => ⟨by omega, by omega⟩))
              first | apply Trace.pu [_] (.loadLoc1D ty3 (.plain rfl) rfl rfl) | apply Trace.pu [_] (.loadLoc1 ty3 (.plain rfl) rfl rfl) | apply Trace.pu [] (.loadRp1 ty3 (.plain rfl) rfl) | apply Trace.pu [_] (.loadCol1 ty3 (.plain rfl) rfl rfl rfl (fun _ => by omega))
              first | apply Trace.pu [] (.indexRows el22 (.plain rfl) (.plain rfl) (fun _ => ⟨by omega, by omega⟩)) | apply Trace.pu [] (.indexOwn el22 (.plain rfl) (.plain rfl) (fun _ => ⟨by omega, by omega⟩)) | apply Trace.pu [] (.indexSl el22 (.plain rfl) (.plain rfl) (fun _ => ⟨by omega, by omega⟩))
              first | apply Trace.storeD ty3 (.plain rfl) (.plain rfl) rfl rfl rfl (by simp [AV.oneB, single]) (Nat.le_of_ble_eq_true rfl) rfl | apply Trace.storeDA ty3 (.plain rfl) (.plain rfl) rfl rfl rfl (by simp [AV.oneB, single]) (Nat.le_of_ble_eq_true rfl) rfl | apply Trace.storeLoc ty3 (.plain rfl) (.plain rfl) rfl rfl rfl (by simp [AV.oneB, single]) (Nat.le_of_ble_eq_true rfl) rfl | apply Trace.storeRow ty3 (.plain rfl) (.plain rfl) rfl rfl rfl rfl (by decide) (by simp [AV.oneB, single]) rfl (by omega)
              exact .nil _
            · rfl
            · exact keepOK_of hk hn rfl
            apply WPA.region
            · apply Trace.pu [] (.move (.plain rfl))
              apply Trace.pu [] (.arith (.plain rfl) (.plain rfl) rfl (fun _ => bd64 (by omega)))
              apply Trace.pu [] (.assign (.plain rfl))
              exact .nil _
            · exact keepOK_of hk hn rfl
            exact ⟨i + 1, by omega, by omega, St.le_cons rfl (St.le_cons rfl (St.le_cons rfl (St.le_cons rfl (St.le_cons rfl (St.le_cons rfl (St.le_cons rfl (St.le_cons rfl (St.le_cons rfl (St.le_cons rfl (St.le_cons rfl (St.le_cons (slI (by omega)) (St.le_nil _))))))))))))⟩
          · have him3 : i = g.lat.length := by
              have : ¬ ((i : Int) < g.lat.length) := by simpa using hc8
              omega
            subst him3
            apply WPA.exit
            apply WPA.seq
            apply WPA.seq
            apply WPA.region
            · apply Trace.pu [] (.assign (.plain rfl))
              exact .nil _
            · exact keepOK_of hk hn rfl
            apply WPA.block
            refine WPA.loop (σ := Nat) (fun i => [(sl 1, .av (iv .i64 (fr))), (sl 2, .av (.d (rowsD 1 ts.length [.ints .u8 ts]))), (sl 3, .av (.loc 3 0)), (sl 7, .av (iv .i64 (g.lat.length))), (sl 8, .av (.own 46 g.lat.length)), (bk 3, .blk (.data g.ds)), (bk 46, .blk (.app 1 g.lat.length [.ints .i64 (num)])), (sl 10, .av (.loc 10 0)), (bk 10, .blk (.cells [.own 57 g.lat.length, .own 61 g.es.length])), (bk 57, .blk (.app 1 g.lat.length [.ints .i64 (latTo g.lat.length num g.lat g.lat.length)])), (bk 61, .blk (.app 4 g.es.length (edgCols (renTo g.lat.length num es i)))), (sl 19, .av (iv .i64 (i)))]) (fun i => i ≤ g.es.length) (fun i => g.es.length - i) 0
              (St.le_cons rfl (St.le_cons rfl (St.le_cons rfl (St.le_cons rfl (St.le_cons rfl (St.le_cons rfl (St.le_cons rfl (St.le_cons rfl (St.le_cons rfl (St.le_cons rfl (St.le_cons (by rw [renTo_zero]; rfl) (St.le_cons rfl (St.le_nil _))))))))))))) (Nat.zero_le _) fun i hi4 => ?_
            apply WPA.seq
            apply WPA.seq
            apply WPA.region
            · apply Trace.pu [] (.move (.plain rfl))
              apply Trace.pu [] (.fieldAddr fl25_1 (.plain rfl) rfl)
              first | apply Trace.pu [_] (.loadLoc1D ty23 (.plain rfl) rfl rfl) | apply Trace.pu [_] (.loadLoc1 ty23 (.plain rfl) rfl rfl) | apply Trace.pu [] (.loadRp1 ty23 (.plain rfl) rfl) | apply Trace.pu [_] (.loadCol1 ty23 (.plain rfl) rfl rfl rfl (fun _ => by omega))
              apply Trace.pu [] (.len rfl Try.underlying23 (.plain rfl) rfl)
              apply Trace.pu [] (.cmp (.plain rfl) (.plain rfl) rfl)
              exact .nil _
            · exact keepOK_of hk hn rfl
            refine WPA.cond rfl (fun hc9 => ?_) (fun hc9 => ?_)
            · have hlt : i < g.es.length := by simpa using hc9
              have hlt2 : i < es.length := by omega
              obtain ⟨L, hL⟩ : ∃ L, renTo g.lat.length num es i = L := ⟨_, rfl⟩
              have hLl : L.length = g.es.length := by rw [← hL, renTo_len, hel]
              have hLi : i < L.length := by omega
              obtain ⟨e, he⟩ : ∃ e, es.getD i default = e := ⟨_, rfl⟩
              have hLe : L.getD i default = e := by rw [← hL, renTo_at hlt2, if_neg (by omega), he]
              have hLs : renTo g.lat.length num es (i + 1) = L.set i (e.ren g.lat.length num) := by rw [renTo_succ hlt2, hL, he]
              have hLf : (L.map (fun e : Edg => e.f)).length = g.es.length := by simp [hLl]
              have hLt : (L.map (fun e : Edg => e.t)).length = g.es.length := by simp [hLl]
              have hLf2 : (L.map (fun e : Edg => e.f)).getD ((i : Nat) : Int).toNat 0 = e.f := by
                show (L.map (fun e : Edg => e.f)).getD i 0 = _
                rw [getD_map' _ _ default _ hLi, hLe]
              have hLt2 : (L.map (fun e : Edg => e.t)).getD ((i : Nat) : Int).toNat 0 = e.t := by
                show (L.map (fun e : Edg => e.t)).getD i 0 = _
                rw [getD_map' _ _ default _ hLi, hLe]
              have hw4 : (renTo g.lat.length num es (i + 1)).map (·.w) = L.map (·.w) := by rw [hLs]; exact map_set_same (·.w) hLi (by rw [hLe]; rfl)
              have hd4 : (renTo g.lat.length num es (i + 1)).map (·.d) = L.map (·.d) := by rw [hLs]; exact map_set_same (·.d) hLi (by rw [hLe]; rfl)
              rw [hL]
              apply WPA.skip
              apply WPA.seq
              apply WPA.block
              apply WPA.seq
              apply WPA.seq
              apply WPA.region
              · apply Trace.pu [] (.fieldAddr fl25_1 (.plain rfl) rfl)
                first | apply Trace.pu [_] (.loadLoc1D ty23 (.plain rfl) rfl rfl) | apply Trace.pu [_] (.loadLoc1 ty23 (.plain rfl) rfl rfl) | apply Trace.pu [] (.loadRp1 ty23 (.plain rfl) rfl) | apply Trace.pu [_] (.loadCol1 ty23 (.plain rfl) rfl rfl rfl (fun _ => by omega))
                apply Trace.pu [] (.move (.plain rfl))
                first | apply Trace.pu [] (.indexRows el23 (.plain rfl) (.plain rfl) (fun _ => ⟨by omega, by omega⟩)) | apply Trace.pu [] (.indexOwn el23 (.plain rfl) (.plain rfl) (fun _ => ⟨by omega, by omega⟩)) | apply Trace.pu [] (.indexSl el23 (.plain rfl) (.plain rfl) (fun _ => ⟨by omega, by omega⟩))
                apply Trace.pu [] (.fieldAddr fl40_0 (.plain rfl) rfl)
                first | apply Trace.pu [_] (.loadLoc1D ty3 (.plain rfl) rfl rfl) | apply Trace.pu [_] (.loadLoc1 ty3 (.plain rfl) rfl rfl) | apply Trace.pu [] (.loadRp1 ty3 (.plain rfl) rfl) | apply Trace.pu [_] (.loadCol1 ty3 (.plain rfl) rfl rfl rfl (fun _ => by omega))
                apply Trace.pu [] (.cmp (.plain rfl) (.plain rfl) rfl)
                apply Trace.pu [] (.move (.plain rfl))
                apply Trace.pg [] rfl (.fieldAddr fl25_1 (.plain rfl) rfl)
                first | apply Trace.pg [_] rfl (.loadLoc1D ty23 (.gd rfl (fun h => h)) rfl rfl) | apply Trace.pg [_] rfl (.loadLoc1 ty23 (.gd rfl (fun h => h)) rfl rfl) | apply Trace.pg [] rfl (.loadRp1 ty23 (.gd rfl (fun h => h)) rfl) | apply Trace.pg [_] rfl (.loadCol1 ty23 (.gd rfl (fun h => h)) rfl rfl rfl (fun _ => by omega))
                apply Trace.pg [] rfl (.move (.plain rfl))
                first | apply Trace.pg [] rfl (.indexRows el23 (.gd rfl (fun h => h)) (.gd rfl (fun h => h)) (fun _ => ⟨by omega, by omega⟩)) | apply Trace.pg [] rfl (.indexOwn el23 (.gd rfl (fun h => h)) (.gd rfl (fun h => h)) (fun _ => ⟨by omega, by omega⟩)) | apply Trace.pg [] rfl (.indexSl el23 (.gd rfl (fun h => h)) (.gd rfl (fun h => h)) (fun _ => ⟨by omega, by omega⟩))
                apply Trace.pg [] rfl (.fieldAddr fl40_0 (.gd rfl (fun h => h)) rfl)
                first | apply Trace.pg [_] rfl (.loadLoc1D ty3 (.gd rfl (fun h => h)) rfl rfl) | apply Trace.pg [_] rfl (.loadLoc1 ty3 (.gd rfl (fun h => h)) rfl rfl) | apply Trace.pg [] rfl (.loadRp1 ty3 (.gd rfl (fun h => h)) rfl) | apply Trace.pg [_] rfl (.loadCol1 ty3 (.gd rfl (fun h => h)) rfl rfl rfl (fun _ => by omega))
                apply Trace.pg [] rfl (.move (.plain rfl))
                apply Trace.pg [] rfl (.cmp (.gd rfl (fun h => h)) (.gd rfl (fun h => h)) rfl)
                apply Trace.pu [] (.pick (.plain rfl) (.gd rfl (by simp)) (.plain rfl))
                exact .nil _
              · exact keepOK_of hk hn rfl
              refine WPA.cond rfl (fun hc10 => ?_) (fun hc10 => ?_)
              · have hin : 0 ≤ e.f ∧ e.f < (g.lat.length : Int) := by
                  have h9 : (bif decide (0 ≤ (L.map (fun e : Edg => e.f)).getD ((i : Nat) : Int).toNat 0) then decide ((L.map (fun e : Edg => e.f)).getD ((i : Nat) : Int).toNat 0 < (g.lat.length : Int)) else false) = true := hc10
                  rw [bif_and', Bool.and_eq_true, decide_eq_true_eq, decide_eq_true_eq] at h9
                  omega
                have hnr := hP.rg (e.f).toNat (by omega)
                have hrn : ren g.lat.length num (e.f) = num.getD (e.f).toNat 0 := ren_node hin
                obtain ⟨F', hF', hF2⟩ : ∃ F', (L.map (fun e : Edg => e.f)).set i (num.getD ((L.map (fun e : Edg => e.f)).getD ((i : Nat) : Int).toNat 0).toNat 0) = F' ∧ F' = (renTo g.lat.length num es (i + 1)).map (fun e : Edg => e.f) := ⟨_, rfl, by rw [hLf2, hLs, List.map_set]; show _ = (L.map (fun e : Edg => e.f)).set i (ren g.lat.length num e.f); rw [hrn]⟩
                apply WPA.draw mixed
                · apply Trace.pu [] (.fieldAddr fl25_1 (.plain rfl) rfl)
                  first | apply Trace.pu [_] (.loadLoc1D ty23 (.plain rfl) rfl rfl) | apply Trace.pu [_] (.loadLoc1 ty23 (.plain rfl) rfl rfl) | apply Trace.pu [] (.loadRp1 ty23 (.plain rfl) rfl) | apply Trace.pu [_] (.loadCol1 ty23 (.plain rfl) rfl rfl rfl (fun _ => by omega))
                  apply Trace.pu [] (.move (.plain rfl))
                  apply Trace.pu [] (.move (.plain rfl))
                  apply Trace.pu [] (.fieldAddr fl25_1 (.plain rfl) rfl)
                  first | apply Trace.pu [_] (.loadLoc1D ty23 (.plain rfl) rfl rfl) | apply Trace.pu [_] (.loadLoc1 ty23 (.plain rfl) rfl rfl) | apply Trace.pu [] (.loadRp1 ty23 (.plain rfl) rfl) | apply Trace.pu [_] (.loadCol1 ty23 (.plain rfl) rfl rfl rfl (fun _ => by omega))
                  apply Trace.pu [] (.move (.plain rfl))
                  first | apply Trace.pu [] (.indexRows el23 (.plain rfl) (.plain rfl) (fun _ => ⟨by omega, by omega⟩)) | apply Trace.pu [] (.indexOwn el23 (.plain rfl) (.plain rfl) (fun _ => ⟨by omega, by omega⟩)) | apply Trace.pu [] (.indexSl el23 (.plain rfl) (.plain rfl) (fun _ => ⟨by omega, by omega⟩))
                  apply Trace.pu [] (.fieldAddr fl40_0 (.plain rfl) rfl)
                  first | apply Trace.pu [_] (.loadLoc1D ty3 (.plain rfl) rfl rfl) | apply Trace.pu [_] (.loadLoc1 ty3 (.plain rfl) rfl rfl) | apply Trace.pu [] (.loadRp1 ty3 (.plain rfl) rfl) | apply Trace.pu [_] (.loadCol1 ty3 (.plain rfl) rfl rfl rfl (fun _ => by omega))
                  first | apply Trace.pu [] (.indexRows el22 (.plain rfl) (.plain rfl) (fun _ => ⟨by omega, by omega⟩)) | apply Trace.pu [] (.indexOwn el22 (.plain rfl) (.plain rfl) (fun _ => ⟨by omega, by omega⟩)) | apply Trace.pu [] (.indexSl el22 (.plain rfl) (.plain rfl) (fun _ => ⟨by omega, by omega⟩))
                  first | apply Trace.pu [_] (.loadLoc1D ty3 (.plain rfl) rfl rfl) | apply Trace.pu [_] (.loadLoc1 ty3 (.plain rfl) rfl rfl) | apply Trace.pu [] (.loadRp1 ty3 (.plain rfl) rfl) | apply Trace.pu [_] (.loadCol1 ty3 (.plain rfl) rfl rfl rfl (fun _ => by omega))
                  first | apply Trace.pu [] (.indexRows el23 (.plain rfl) (.plain rfl) (fun _ => ⟨by omega, by omega⟩)) | apply Trace.pu [] (.indexOwn el23 (.plain rfl) (.plain rfl) (fun _ => ⟨by omega, by omega⟩)) | apply Trace.pu [] (.indexSl el23 (.plain rfl) (.plain rfl) (fun _ => ⟨by omega, by omega⟩))
                  apply Trace.pu [] (.fieldAddr fl40_0 (.plain rfl) rfl)
                  first | apply Trace.storeD ty3 (.plain rfl) (.plain rfl) rfl rfl rfl (by simp [AV.oneB, single]) (Nat.le_of_ble_eq_true rfl) rfl | apply Trace.storeDA ty3 (.plain rfl) (.plain rfl) rfl rfl rfl (by simp [AV.oneB, single]) (Nat.le_of_ble_eq_true rfl) rfl | apply Trace.storeLoc ty3 (.plain rfl) (.plain rfl) rfl rfl rfl (by simp [AV.oneB, single]) (Nat.le_of_ble_eq_true rfl) rfl | apply Trace.storeRow ty3 (.plain rfl) (.plain rfl) rfl rfl rfl rfl (by decide) (by simp [AV.oneB, single]) rfl (by omega)
                  exact .nil _
                · rfl
                · exact keepOK_of hk hn rfl
                apply WPA.seq
                have hFl : F'.length = g.es.length := by rw [hF2]; simp [renTo_len, hel]
                refine WPA.weaken (T := [(sl 1, .av (iv .i64 (fr))), (sl 2, .av (.d (rowsD 1 ts.length [.ints .u8 ts]))), (sl 3, .av (.loc 3 0)), (sl 7, .av (iv .i64 (g.lat.length))), (sl 8, .av (.own 46 g.lat.length)), (bk 3, .blk (.data g.ds)), (bk 46, .blk (.app 1 g.lat.length [.ints .i64 (num)])), (sl 10, .av (.loc 10 0)), (bk 10, .blk (.cells [.own 57 g.lat.length, .own 61 g.es.length])), (bk 57, .blk (.app 1 g.lat.length [.ints .i64 (latTo g.lat.length num g.lat g.lat.length)])), (bk 61, .blk (.app 4 g.es.length ([.ints .i64 F', .ints .i64 (L.map (fun e : Edg => e.t)), .ints .i64 (L.map (fun e : Edg => e.w)), .ints .i64 (L.map (fun e : Edg => e.d))]))), (sl 19, .av (iv .i64 (i)))]) ?_ (St.le_cons rfl (St.le_cons rfl (St.le_cons rfl (St.le_cons rfl (St.le_cons rfl (St.le_cons rfl (St.le_cons rfl (St.le_cons rfl (St.le_cons rfl (St.le_cons rfl (St.le_cons (by rw [← hF']; rfl) (St.le_cons rfl (St.le_nil _)))))))))))))
                apply WPA.region
                · apply Trace.pu [] (.fieldAddr fl25_1 (.plain rfl) rfl)
                  first | apply Trace.pu [_] (.loadLoc1D ty23 (.plain rfl) rfl rfl) | apply Trace.pu [_] (.loadLoc1 ty23 (.plain rfl) rfl rfl) | apply Trace.pu [] (.loadRp1 ty23 (.plain rfl) rfl) | apply Trace.pu [_] (.loadCol1 ty23 (.plain rfl) rfl rfl rfl (fun _ => by omega))
                  apply Trace.pu [] (.move (.plain rfl))
                  first | apply Trace.pu [] (.indexRows el23 (.plain rfl) (.plain rfl) (fun _ => ⟨by omega, by omega⟩)) | apply Trace.pu [] (.indexOwn el23 (.plain rfl) (.plain rfl) (fun _ => ⟨by omega, by omega⟩)) | apply Trace.pu [] (.indexSl el23 (.plain rfl) (.plain rfl) (fun _ => ⟨by omega, by omega⟩))
                  apply Trace.pu [] (.fieldAddr fl40_1 (.plain rfl) rfl)
                  first | apply Trace.pu [_] (.loadLoc1D ty3 (.plain rfl) rfl rfl) | apply Trace.pu [_] (.loadLoc1 ty3 (.plain rfl) rfl rfl) | apply Trace.pu [] (.loadRp1 ty3 (.plain rfl) rfl) | apply Trace.pu [_] (.loadCol1 ty3 (.plain rfl) rfl rfl rfl (fun _ => by omega))
                  apply Trace.pu [] (.cmp (.plain rfl) (.plain rfl) rfl)
                  apply Trace.pu [] (.move (.plain rfl))
                  apply Trace.pg [] rfl (.fieldAddr fl25_1 (.plain rfl) rfl)
                  first | apply Trace.pg [_] rfl (.loadLoc1D ty23 (.gd rfl (fun h => h)) rfl rfl) | apply Trace.pg [_] rfl (.loadLoc1 ty23 (.gd rfl (fun h => h)) rfl rfl) | apply Trace.pg [] rfl (.loadRp1 ty23 (.gd rfl (fun h => h)) rfl) | apply Trace.pg [_] rfl (.loadCol1 ty23 (.gd rfl (fun h => h)) rfl rfl rfl (fun _ => by omega))
                  apply Trace.pg [] rfl (.move (.plain rfl))
                  first | apply Trace.pg [] rfl (.indexRows el23 (.gd rfl (fun h => h)) (.gd rfl (fun h => h)) (fun _ => ⟨by omega, by omega⟩)) | apply Trace.pg [] rfl (.indexOwn el23 (.gd rfl (fun h => h)) (.gd rfl (fun h => h)) (fun _ => ⟨by omega, by omega⟩)) | apply Trace.pg [] rfl (.indexSl el23 (.gd rfl (fun h => h)) (.gd rfl (fun h => h)) (fun _ => ⟨by omega, by omega⟩))
                  apply Trace.pg [] rfl (.fieldAddr fl40_1 (.gd rfl (fun h => h)) rfl)
                  first | apply Trace.pg [_] rfl (.loadLoc1D ty3 (.gd rfl (fun h => h)) rfl rfl) | apply Trace.pg [_] rfl (.loadLoc1 ty3 (.gd rfl (fun h => h)) rfl rfl) | apply Trace.pg [] rfl (.loadRp1 ty3 (.gd rfl (fun h => h)) rfl) | apply Trace.pg [_] rfl (.loadCol1 ty3 (.gd rfl (fun h => h)) rfl rfl rfl (fun _ => by omega))
                  apply Trace.pg [] rfl (.move (.plain rfl))
                  apply Trace.pg [] rfl (.cmp (.gd rfl (fun h => h)) (.gd rfl (fun h => h)) rfl)
                  apply Trace.pu [] (.pick (.plain rfl) (.gd rfl (by simp)) (.plain rfl))
                  exact .nil _
                · exact keepOK_of hk hn rfl
                refine WPA.cond rfl (fun hc11 => ?_) (fun hc11 => ?_)
                · have hin : 0 ≤ e.t ∧ e.t < (g.lat.length : Int) := by
                    have h9 : (bif decide (0 ≤ (L.map (fun e : Edg => e.t)).getD ((i : Nat) : Int).toNat 0) then decide ((L.map (fun e : Edg => e.t)).getD ((i : Nat) : Int).toNat 0 < (g.lat.length : Int)) else false) = true := hc11
                    rw [bif_and', Bool.and_eq_true, decide_eq_true_eq, decide_eq_true_eq] at h9
                    omega
                  have hnr := hP.rg (e.t).toNat (by omega)
                  have hrn : ren g.lat.length num (e.t) = num.getD (e.t).toNat 0 := ren_node hin
                  obtain ⟨T', hT', hT2⟩ : ∃ T', (L.map (fun e : Edg => e.t)).set i (num.getD ((L.map (fun e : Edg => e.t)).getD ((i : Nat) : Int).toNat 0).toNat 0) = T' ∧ T' = (renTo g.lat.length num es (i + 1)).map (fun e : Edg => e.t) := ⟨_, rfl, by rw [hLt2, hLs, List.map_set]; show _ = (L.map (fun e : Edg => e.t)).set i (ren g.lat.length num e.t); rw [hrn]⟩
                  apply WPA.draw mixed
                  · apply Trace.pu [] (.fieldAddr fl25_1 (.plain rfl) rfl)
                    first | apply Trace.pu [_] (.loadLoc1D ty23 (.plain rfl) rfl rfl) | apply Trace.pu [_] (.loadLoc1 ty23 (.plain rfl) rfl rfl) | apply Trace.pu [] (.loadRp1 ty23 (.plain rfl) rfl) | apply Trace.pu [_] (.loadCol1 ty23 (.plain rfl) rfl rfl rfl (fun _ => by omega))
                    apply Trace.pu [] (.move (.plain rfl))
                    apply Trace.pu [] (.move (.plain rfl))
                    apply Trace.pu [] (.fieldAddr fl25_1 (.plain rfl) rfl)
                    first | apply Trace.pu [_] (.loadLoc1D ty23 (.plain rfl) rfl rfl) | apply Trace.pu [_] (.loadLoc1 ty23 (.plain rfl) rfl rfl) | apply Trace.pu [] (.loadRp1 ty23 (.plain rfl) rfl) | apply Trace.pu [_] (.loadCol1 ty23 (.plain rfl) rfl rfl rfl (fun _ => by omega))
                    apply Trace.pu [] (.move (.plain rfl))
                    first | apply Trace.pu [] (.indexRows el23 (.plain rfl) (.plain rfl) (fun _ => ⟨by omega, by omega⟩)) | apply Trace.pu [] (.indexOwn el23 (.plain rfl) (.plain rfl) (fun _ => ⟨by omega, by omega⟩)) | apply Trace.pu [] (.indexSl el23 (.plain rfl) (.plain rfl) (fun _ => ⟨by omega, by omega⟩))
                    apply Trace.pu [] (.fieldAddr fl40_1 (.plain rfl) rfl)
                    first | apply Trace.pu [_] (.loadLoc1D ty3 (.plain rfl) rfl rfl) | apply Trace.pu [_] (.loadLoc1 ty3 (.plain rfl) rfl rfl) | apply Trace.pu [] (.loadRp1 ty3 (.plain rfl) rfl) | apply Trace.pu [_] (.loadCol1 ty3 (.plain rfl) rfl rfl rfl (fun _ => by omega))
                    first | apply Trace.pu [] (.indexRows el22 (.plain rfl) (.plain rfl) (fun _ => ⟨by omega, by omega⟩)) | apply Trace.pu [] (.indexOwn el22 (.plain rfl) (.plain rfl) (fun _ => ⟨by omega, by omega⟩)) | apply Trace.pu [] (.indexSl el22 (.plain rfl) (.plain rfl) (fun _ => ⟨by omega, by omega⟩))
                    first | apply Trace.pu [_] (.loadLoc1D ty3 (.plain rfl) rfl rfl) | apply Trace.pu [_] (.loadLoc1 ty3 (.plain rfl) rfl rfl) | apply Trace.pu [] (.loadRp1 ty3 (.plain rfl) rfl) | apply Trace.pu [_] (.loadCol1 ty3 (.plain rfl) rfl rfl rfl (fun _ => by omega))
                    first | apply Trace.pu [] (.indexRows el23 (.plain rfl) (.plain rfl) (fun _ => ⟨by omega, by omega⟩)) | apply Trace.pu [] (.indexOwn el23 (.plain rfl) (.plain rfl) (fun _ => ⟨by omega, by omega⟩)) | apply Trace.pu [] (.indexSl el23 (.plain rfl) (.plain rfl) (fun _ => ⟨by omega, by omega⟩))
                    apply Trace.pu [] (.fieldAddr fl40_1 (.plain rfl) rfl)
                    first | apply Trace.storeD ty3 (.plain rfl) (.plain rfl) rfl rfl rfl (by simp [AV.oneB, single]) (Nat.le_of_ble_eq_true rfl) rfl | apply Trace.storeDA ty3 (.plain rfl) (.plain rfl) rfl rfl rfl (by simp [AV.oneB, single]) (Nat.le_of_ble_eq_true rfl) rfl | apply Trace.storeLoc ty3 (.plain rfl) (.plain rfl) rfl rfl rfl (by simp [AV.oneB, single]) (Nat.le_of_ble_eq_true rfl) rfl | apply Trace.storeRow ty3 (.plain rfl) (.plain rfl) rfl rfl rfl rfl (by decide) (by simp [AV.oneB, single]) rfl (by omega)
                    exact .nil _
                  · rfl
                  · exact keepOK_of hk hn rfl
                  apply WPA.region
                  · apply Trace.pu [] (.move (.plain rfl))
                    apply Trace.pu [] (.arith (.plain rfl) (.plain rfl) rfl (fun _ => bd64 (by omega)))
                    apply Trace.pu [] (.assign (.plain rfl))
                    exact .nil _
                  · exact keepOK_of hk hn rfl
                  have hcol4 : [Col.ints .i64 F', .ints .i64 T', .ints .i64 (L.map (fun e : Edg => e.w)), .ints .i64 (L.map (fun e : Edg => e.d))] = edgCols (renTo g.lat.length num es (i + 1)) := by rw [hF2, hT2, ← hw4, ← hd4]
                  exact ⟨i + 1, by omega, by omega, St.le_cons rfl (St.le_cons rfl (St.le_cons rfl (St.le_cons rfl (St.le_cons rfl (St.le_cons rfl (St.le_cons rfl (St.le_cons rfl (St.le_cons rfl (St.le_cons rfl (St.le_cons (by rw [← hcol4, ← hT']; rfl) (St.le_cons (slI (by omega)) (St.le_nil _))))))))))))⟩
                · have hrn : ren g.lat.length num (e.t) = e.t := by
                    have h9 : (bif decide (0 ≤ (L.map (fun e : Edg => e.t)).getD ((i : Nat) : Int).toNat 0) then decide ((L.map (fun e : Edg => e.t)).getD ((i : Nat) : Int).toNat 0 < (g.lat.length : Int)) else false) = false := hc11
                    rw [bif_and', Bool.and_eq_false_iff, decide_eq_false_iff_not, decide_eq_false_iff_not] at h9
                    unfold ren
                    rw [if_neg (by omega)]
                  obtain ⟨T', hT', hT2⟩ : ∃ T', L.map (fun e : Edg => e.t) = T' ∧ T' = (renTo g.lat.length num es (i + 1)).map (fun e : Edg => e.t) := ⟨_, rfl, by
                    rw [hLs]
                    exact (map_set_same (fun e : Edg => e.t) hLi (by show ren g.lat.length num e.t = _; rw [hrn, hLe])).symm⟩
                  apply WPA.skip
                  apply WPA.region
                  · apply Trace.pu [] (.move (.plain rfl))
                    apply Trace.pu [] (.arith (.plain rfl) (.plain rfl) rfl (fun _ => bd64 (by omega)))
                    apply Trace.pu [] (.assign (.plain rfl))
                    exact .nil _
                  · exact keepOK_of hk hn rfl
                  have hcol4 : [Col.ints .i64 F', .ints .i64 T', .ints .i64 (L.map (fun e : Edg => e.w)), .ints .i64 (L.map (fun e : Edg => e.d))] = edgCols (renTo g.lat.length num es (i + 1)) := by rw [hF2, hT2, ← hw4, ← hd4]
                  exact ⟨i + 1, by omega, by omega, St.le_cons rfl (St.le_cons rfl (St.le_cons rfl (St.le_cons rfl (St.le_cons rfl (St.le_cons rfl (St.le_cons rfl (St.le_cons rfl (St.le_cons rfl (St.le_cons rfl (St.le_cons (by rw [← hcol4, ← hT']; rfl) (St.le_cons (slI (by omega)) (St.le_nil _))))))))))))⟩
              · have hrn : ren g.lat.length num (e.f) = e.f := by
                  have h9 : (bif decide (0 ≤ (L.map (fun e : Edg => e.f)).getD ((i : Nat) : Int).toNat 0) then decide ((L.map (fun e : Edg => e.f)).getD ((i : Nat) : Int).toNat 0 < (g.lat.length : Int)) else false) = false := hc10
                  rw [bif_and', Bool.and_eq_false_iff, decide_eq_false_iff_not, decide_eq_false_iff_not] at h9
                  unfold ren
                  rw [if_neg (by omega)]
                obtain ⟨F', hF', hF2⟩ : ∃ F', L.map (fun e : Edg => e.f) = F' ∧ F' = (renTo g.lat.length num es (i + 1)).map (fun e : Edg => e.f) := ⟨_, rfl, by
                  rw [hLs]
                  exact (map_set_same (fun e : Edg => e.f) hLi (by show ren g.lat.length num e.f = _; rw [hrn, hLe])).symm⟩
                apply WPA.skip
                apply WPA.seq
                have hFl : F'.length = g.es.length := by rw [hF2]; simp [renTo_len, hel]
                refine WPA.weaken (T := [(sl 1, .av (iv .i64 (fr))), (sl 2, .av (.d (rowsD 1 ts.length [.ints .u8 ts]))), (sl 3, .av (.loc 3 0)), (sl 7, .av (iv .i64 (g.lat.length))), (sl 8, .av (.own 46 g.lat.length)), (bk 3, .blk (.data g.ds)), (bk 46, .blk (.app 1 g.lat.length [.ints .i64 (num)])), (sl 10, .av (.loc 10 0)), (bk 10, .blk (.cells [.own 57 g.lat.length, .own 61 g.es.length])), (bk 57, .blk (.app 1 g.lat.length [.ints .i64 (latTo g.lat.length num g.lat g.lat.length)])), (bk 61, .blk (.app 4 g.es.length ([.ints .i64 F', .ints .i64 (L.map (fun e : Edg => e.t)), .ints .i64 (L.map (fun e : Edg => e.w)), .ints .i64 (L.map (fun e : Edg => e.d))]))), (sl 19, .av (iv .i64 (i)))]) ?_ (St.le_cons rfl (St.le_cons rfl (St.le_cons rfl (St.le_cons rfl (St.le_cons rfl (St.le_cons rfl (St.le_cons rfl (St.le_cons rfl (St.le_cons rfl (St.le_cons rfl (St.le_cons (by rw [← hF']; rfl) (St.le_cons rfl (St.le_nil _)))))))))))))
                apply WPA.region
                · apply Trace.pu [] (.fieldAddr fl25_1 (.plain rfl) rfl)
                  first | apply Trace.pu [_] (.loadLoc1D ty23 (.plain rfl) rfl rfl) | apply Trace.pu [_] (.loadLoc1 ty23 (.plain rfl) rfl rfl) | apply Trace.pu [] (.loadRp1 ty23 (.plain rfl) rfl) | apply Trace.pu [_] (.loadCol1 ty23 (.plain rfl) rfl rfl rfl (fun _ => by omega))
                  apply Trace.pu [] (.move (.plain rfl))
                  first | apply Trace.pu [] (.indexRows el23 (.plain rfl) (.plain rfl) (fun _ => ⟨by omega, by omega⟩)) | apply Trace.pu [] (.indexOwn el23 (.plain rfl) (.plain rfl) (fun _ => ⟨by omega, by omega⟩)) | apply Trace.pu [] (.indexSl el23 (.plain rfl) (.plain rfl) (fun _ => ⟨by omega, by omega⟩))
                  apply Trace.pu [] (.fieldAddr fl40_1 (.plain rfl) rfl)
                  first | apply Trace.pu [_] (.loadLoc1D ty3 (.plain rfl) rfl rfl) | apply Trace.pu [_] (.loadLoc1 ty3 (.plain rfl) rfl rfl) | apply Trace.pu [] (.loadRp1 ty3 (.plain rfl) rfl) | apply Trace.pu [_] (.loadCol1 ty3 (.plain rfl) rfl rfl rfl (fun _ => by omega))
                  apply Trace.pu [] (.cmp (.plain rfl) (.plain rfl) rfl)
                  apply Trace.pu [] (.move (.plain rfl))
                  apply Trace.pg [] rfl (.fieldAddr fl25_1 (.plain rfl) rfl)
                  first | apply Trace.pg [_] rfl (.loadLoc1D ty23 (.gd rfl (fun h => h)) rfl rfl) | apply Trace.pg [_] rfl (.loadLoc1 ty23 (.gd rfl (fun h => h)) rfl rfl) | apply Trace.pg [] rfl (.loadRp1 ty23 (.gd rfl (fun h => h)) rfl) | apply Trace.pg [_] rfl (.loadCol1 ty23 (.gd rfl (fun h => h)) rfl rfl rfl (fun _ => by omega))
                  apply Trace.pg [] rfl (.move (.plain rfl))
                  first | apply Trace.pg [] rfl (.indexRows el23 (.gd rfl (fun h => h)) (.gd rfl (fun h => h)) (fun _ => ⟨by omega, by omega⟩)) | apply Trace.pg [] rfl (.indexOwn el23 (.gd rfl (fun h => h)) (.gd rfl (fun h => h)) (fun _ => ⟨by omega, by omega⟩)) | apply Trace.pg [] rfl (.indexSl el23 (.gd rfl (fun h => h)) (.gd rfl (fun h => h)) (fun _ => ⟨by omega, by omega⟩))
                  apply Trace.pg [] rfl (.fieldAddr fl40_1 (.gd rfl (fun h => h)) rfl)
                  first | apply Trace.pg [_] rfl (.loadLoc1D ty3 (.gd rfl (fun h => h)) rfl rfl) | apply Trace.pg [_] rfl (.loadLoc1 ty3 (.gd rfl (fun h => h)) rfl rfl) | apply Trace.pg [] rfl (.loadRp1 ty3 (.gd rfl (fun h => h)) rfl) | apply Trace.pg [_] rfl (.loadCol1 ty3 (.gd rfl (fun h => h)) rfl rfl rfl (fun _ => by omega))
                  apply Trace.pg [] rfl (.move (.plain rfl))
                  apply Trace.pg [] rfl (.cmp (.gd rfl (fun h => h)) (.gd rfl (fun h => h)) rfl)
                  apply Trace.pu [] (.pick (.plain rfl) (.gd rfl (by simp)) (.plain rfl))
                  exact .nil _
                · exact keepOK_of hk hn rfl
                refine WPA.cond rfl (fun hc12 => ?_) (fun hc12 => ?_)
                · have hin : 0 ≤ e.t ∧ e.t < (g.lat.length : Int) := by
                    have h9 : (bif decide (0 ≤ (L.map (fun e : Edg => e.t)).getD ((i : Nat) : Int).toNat 0) then decide ((L.map (fun e : Edg => e.t)).getD ((i : Nat) : Int).toNat 0 < (g.lat.length : Int)) else false) = true := hc12
                    rw [bif_and', Bool.and_eq_true, decide_eq_true_eq, decide_eq_true_eq] at h9
                    omega
                  have hnr := hP.rg (e.t).toNat (by omega)
                  have hrn : ren g.lat.length num (e.t) = num.getD (e.t).toNat 0 := ren_node hin
                  obtain ⟨T', hT', hT2⟩ : ∃ T', (L.map (fun e : Edg => e.t)).set i (num.getD ((L.map (fun e : Edg => e.t)).getD ((i : Nat) : Int).toNat 0).toNat 0) = T' ∧ T' = (renTo g.lat.length num es (i + 1)).map (fun e : Edg => e.t) := ⟨_, rfl, by rw [hLt2, hLs, List.map_set]; show _ = (L.map (fun e : Edg => e.t)).set i (ren g.lat.length num e.t); rw [hrn]⟩
                  apply WPA.draw mixed
                  · apply Trace.pu [] (.fieldAddr fl25_1 (.plain rfl) rfl)
                    first | apply Trace.pu [_] (.loadLoc1D ty23 (.plain rfl) rfl rfl) | apply Trace.pu [_] (.loadLoc1 ty23 (.plain rfl) rfl rfl) | apply Trace.pu [] (.loadRp1 ty23 (.plain rfl) rfl) | apply Trace.pu [_] (.loadCol1 ty23 (.plain rfl) rfl rfl rfl (fun _ => by omega))
                    apply Trace.pu [] (.move (.plain rfl))
                    apply Trace.pu [] (.move (.plain rfl))
                    apply Trace.pu [] (.fieldAddr fl25_1 (.plain rfl) rfl)
                    first | apply Trace.pu [_] (.loadLoc1D ty23 (.plain rfl) rfl rfl) | apply Trace.pu [_] (.loadLoc1 ty23 (.plain rfl) rfl rfl) | apply Trace.pu [] (.loadRp1 ty23 (.plain rfl) rfl) | apply Trace.pu [_] (.loadCol1 ty23 (.plain rfl) rfl rfl rfl (fun _ => by omega))
                    apply Trace.pu [] (.move (.plain rfl))
                    first | apply Trace.pu [] (.indexRows el23 (.plain rfl) (.plain rfl) (fun _ => ⟨by omega, by omega⟩)) | apply Trace.pu [] (.indexOwn el23 (.plain rfl) (.plain rfl) (fun _ => ⟨by omega, by omega⟩)) | apply Trace.pu [] (.indexSl el23 (.plain rfl) (.plain rfl) (fun _ => ⟨by omega, by omega⟩))
                    apply Trace.pu [] (.fieldAddr fl40_1 (.plain rfl) rfl)
                    first | apply Trace.pu [_] (.loadLoc1D ty3 (.plain rfl) rfl rfl) | apply Trace.pu [_] (.loadLoc1 ty3 (.plain rfl) rfl rfl) | apply Trace.pu [] (.loadRp1 ty3 (.plain rfl) rfl) | apply Trace.pu [_] (.loadCol1 ty3 (.plain rfl) rfl rfl rfl (fun _ => by omega))
                    first | apply Trace.pu [] (.indexRows el22 (.plain rfl) (.plain rfl) (fun _ => ⟨by omega, by omega⟩)) | apply Trace.pu [] (.indexOwn el22 (.plain rfl) (.plain rfl) (fun _ => ⟨by omega, by omega⟩)) | apply Trace.pu [] (.indexSl el22 (.plain rfl) (.plain rfl) (fun _ => ⟨by omega, by omega⟩))
                    first | apply Trace.pu [_] (.loadLoc1D ty3 (.plain rfl) rfl rfl) | apply Trace.pu [_] (.loadLoc1 ty3 (.plain rfl) rfl rfl) | apply Trace.pu [] (.loadRp1 ty3 (.plain rfl) rfl) | apply Trace.pu [_] (.loadCol1 ty3 (.plain rfl) rfl rfl rfl (fun _ => by omega))
                    first | apply Trace.pu [] (.indexRows el23 (.plain rfl) (.plain rfl) (fun _ => ⟨by omega, by omega⟩)) | apply Trace.pu [] (.indexOwn el23 (.plain rfl) (.plain rfl) (fun _ => ⟨by omega, by omega⟩)) | apply Trace.pu [] (.indexSl el23 (.plain rfl) (.plain rfl) (fun _ => ⟨by omega, by omega⟩))
                    apply Trace.pu [] (.fieldAddr fl40_1 (.plain rfl) rfl)
                    first | apply Trace.storeD ty3 (.plain rfl) (.plain rfl) rfl rfl rfl (by simp [AV.oneB, single]) (Nat.le_of_ble_eq_true rfl) rfl | apply Trace.storeDA ty3 (.plain rfl) (.plain rfl) rfl rfl rfl (by simp [AV.oneB, single]) (Nat.le_of_ble_eq_true rfl) rfl | apply Trace.storeLoc ty3 (.plain rfl) (.plain rfl) rfl rfl rfl (by simp [AV.oneB, single]) (Nat.le_of_ble_eq_true rfl) rfl | apply Trace.storeRow ty3 (.plain rfl) (.plain rfl) rfl rfl rfl rfl (by decide) (by simp [AV.oneB, single]) rfl (by omega)
                    exact .nil _
                  · rfl
                  · exact keepOK_of hk hn rfl
                  apply WPA.region
                  · apply Trace.pu [] (.move (.plain rfl))
                    apply Trace.pu [] (.arith (.plain rfl) (.plain rfl) rfl (fun _ => bd64 (by omega)))
                    apply Trace.pu [] (.assign (.plain rfl))
                    exact .nil _
                  · exact keepOK_of hk hn rfl
                  have hcol4 : [Col.ints .i64 F', .ints .i64 T', .ints .i64 (L.map (fun e : Edg => e.w)), .ints .i64 (L.map (fun e : Edg => e.d))] = edgCols (renTo g.lat.length num es (i + 1)) := by rw [hF2, hT2, ← hw4, ← hd4]
                  exact ⟨i + 1, by omega, by omega, St.le_cons rfl (St.le_cons rfl (St.le_cons rfl (St.le_cons rfl (St.le_cons rfl (St.le_cons rfl (St.le_cons rfl (St.le_cons rfl (St.le_cons rfl (St.le_cons rfl (St.le_cons (by rw [← hcol4, ← hT']; rfl) (St.le_cons (slI (by omega)) (St.le_nil _))))))))))))⟩
                · have hrn : ren g.lat.length num (e.t) = e.t := by
                    have h9 : (bif decide (0 ≤ (L.map (fun e : Edg => e.t)).getD ((i : Nat) : Int).toNat 0) then decide ((L.map (fun e : Edg => e.t)).getD ((i : Nat) : Int).toNat 0 < (g.lat.length : Int)) else false) = false := hc12
                    rw [bif_and', Bool.and_eq_false_iff, decide_eq_false_iff_not, decide_eq_false_iff_not] at h9
                    unfold ren
                    rw [if_neg (by omega)]
                  obtain ⟨T', hT', hT2⟩ : ∃ T', L.map (fun e : Edg => e.t) = T' ∧ T' = (renTo g.lat.length num es (i + 1)).map (fun e : Edg => e.t) := ⟨_, rfl, by
                    rw [hLs]
                    exact (map_set_same (fun e : Edg => e.t) hLi (by show ren g.lat.length num e.t = _; rw [hrn, hLe])).symm⟩
                  apply WPA.skip
                  apply WPA.region
                  · apply Trace.pu [] (.move (.plain rfl))
                    apply Trace.pu [] (.arith (.plain rfl) (.plain rfl) rfl (fun _ => bd64 (by omega)))
                    apply Trace.pu [] (.assign (.plain rfl))
                    exact .nil _
                  · exact keepOK_of hk hn rfl
                  have hcol4 : [Col.ints .i64 F', .ints .i64 T', .ints .i64 (L.map (fun e : Edg => e.w)), .ints .i64 (L.map (fun e : Edg => e.d))] = edgCols (renTo g.lat.length num es (i + 1)) := by rw [hF2, hT2, ← hw4, ← hd4]
                  exact ⟨i + 1, by omega, by omega, St.le_cons rfl (St.le_cons rfl (St.le_cons rfl (St.le_cons rfl (St.le_cons rfl (St.le_cons rfl (St.le_cons rfl (St.le_cons rfl (St.le_cons rfl (St.le_cons rfl (St.le_cons (by rw [← hcol4, ← hT']; rfl) (St.le_cons (slI (by omega)) (St.le_nil _))))))))))))⟩
            · have him4 : i = g.es.length := by
                have : ¬ ((i : Int) < g.es.length) := by simpa using hc9
                omega
              subst him4
              have hR := renum_of hP hel hem
              obtain ⟨x, hx⟩ : ∃ x : Gr, (⟨latTo g.lat.length num g.lat g.lat.length, renTo g.lat.length num es es.length⟩ : Gr) = x := ⟨_, rfl⟩
              rw [hx] at hR
              have hzx := renum_sz hR hz hn3
              have hckx := renum_check hR
              have hlt5 := latTo_len g.lat.length num g.lat g.lat.length
              have hrt5 := renTo_len g.lat.length num es es.length
              refine WPA.weaken (T := [(sl 1, .av (iv .i64 (fr))), (sl 2, .av (.d (rowsD 1 ts.length [.ints .u8 ts]))), (sl 3, .av (.loc 3 0)), (sl 7, .av (iv .i64 (g.lat.length))), (sl 8, .av (.own 46 g.lat.length)), (bk 3, .blk (.data g.ds)), (bk 46, .blk (.app 1 g.lat.length [.ints .i64 (num)])), (sl 10, .av (.loc 10 0)), (bk 10, .blk (.cells [.own 57 g.lat.length, .own 61 g.es.length])), (bk 57, .blk (.app 1 g.lat.length [.ints .i64 (latTo g.lat.length num g.lat g.lat.length)])), (bk 61, .blk (.app 4 g.es.length (edgCols (renTo g.lat.length num es es.length))))]) ?_ (St.le_cons rfl (St.le_cons rfl (St.le_cons rfl (St.le_cons rfl (St.le_cons rfl (St.le_cons rfl (St.le_cons rfl (St.le_cons rfl (St.le_cons rfl (St.le_cons rfl (St.le_cons (by rw [hel]; rfl) (St.le_nil _))))))))))))
              refine WPA.ghost (Ghost.cellFreeze (lb := 10) (j := 0) (l := 57) (g := fun k => [Col.at (.ints .i64 (latTo g.lat.length num g.lat g.lat.length)) k]) rfl rfl rfl rfl (fun k hk => rfl) rfl) ?_
              refine WPA.ghost (Ghost.cellFreeze (lb := 10) (j := 1) (l := 61) (g := fun k => ((renTo g.lat.length num es es.length).getD k default).ds) rfl rfl rfl rfl (fun k hk => edg_row (by omega)) rfl) ?_
              refine WPA.ghost (Ghost.reblk (l := 10) (B' := .data x.ds) rfl (fun V M w h => by
                have e : x.ds = [.rows 1 g.lat.length (fun k => [Col.at (.ints .i64 (latTo g.lat.length num g.lat g.lat.length)) k]), .rows 4 g.es.length (fun k => ((renTo g.lat.length num es es.length).getD k default).ds)] := by
                  rw [← hx]; show [intsD _, edgesD _] = _; unfold intsD edgesD rowsD; rw [hlt5, hrt5, hel]; rfl
                rw [e]; exact h)) ?_
              refine WPA.weaken (T := [(sl 1, .av (iv .i64 (fr))), (sl 2, .av (.d (rowsD 1 ts.length [.ints .u8 ts]))), (sl 3, .av (.loc 3 0)), (sl 7, .av (iv .i64 (g.lat.length))), (sl 8, .av (.own 46 g.lat.length)), (bk 3, .blk (.data g.ds)), (bk 46, .blk (.app 1 g.lat.length [.ints .i64 (num)])), (sl 10, .av (.loc 10 0)), (bk 10, .blk (.data x.ds))]) ?_ (St.le_cons rfl (St.le_cons rfl (St.le_cons rfl (St.le_cons rfl (St.le_cons rfl (St.le_cons rfl (St.le_cons rfl (St.le_cons rfl (St.le_cons rfl (St.le_nil _))))))))))
              apply WPA.exit
              apply WPA.seq
              apply WPA.seq
              apply WPA.draw mixed
              · first | apply Trace.pu [_] (.loadAllD ty25 (.plain rfl) rfl (by simp)) | apply Trace.pu [_] (.loadLocD ty25 (.plain rfl) rfl (fun _ => by simp)) | apply Trace.pu [_] (.loadLoc ty25 (.plain rfl) rfl (fun _ => Nat.le_of_ble_eq_true rfl)) | apply Trace.pu [] (.loadRp ty25 (.plain rfl) (fun _ => by decide)) | apply Trace.pu [] (.loadRp ty25 (.plain rfl) (fun _ => Nat.le_of_ble_eq_true rfl)) | apply Trace.pu [_] (.loadCol ty25 (.plain rfl) rfl rfl (fun _ => by decide) (fun _ => by omega)) | apply Trace.pu [_] (.loadArr ty25 (.plain rfl) rfl)
                apply Trace.cu (callArgs0 (.cons (.plain rfl) .nil)) (chN hzx (c := x.check) rfl) en12
                first | apply Trace.pu [_] (.loadAllD ty25 (.plain rfl) rfl (by simp)) | apply Trace.pu [_] (.loadLocD ty25 (.plain rfl) rfl (fun _ => by simp)) | apply Trace.pu [_] (.loadLoc ty25 (.plain rfl) rfl (fun _ => Nat.le_of_ble_eq_true rfl)) | apply Trace.pu [] (.loadRp ty25 (.plain rfl) (fun _ => by decide)) | apply Trace.pu [] (.loadRp ty25 (.plain rfl) (fun _ => Nat.le_of_ble_eq_true rfl)) | apply Trace.pu [_] (.loadCol ty25 (.plain rfl) rfl rfl (fun _ => by decide) (fun _ => by omega)) | apply Trace.pu [_] (.loadArr ty25 (.plain rfl) rfl)
                apply Trace.cu (callArgs0 (.cons (.plain rfl) .nil)) (chN hz (c := g.check) rfl) en12
                apply Trace.pu [] (.cmp (.plain rfl) (.plain rfl) rfl)
                exact .nil _
              · rfl
              · exact keepOK_of hk hn rfl
              refine WPA.cond rfl (fun hc13 => ?_) (fun hc13 => ?_)
              · exfalso
                have h9 : (!decide (x.check = g.check)) = true := hc13
                rw [hckx] at h9; simp at h9
              · apply WPA.skip
                apply WPA.seq
                apply WPA.seq
                apply WPA.region
                · apply Trace.pu [] (.move (.plain rfl))
                  apply Trace.pu [] (.cmp (.plain rfl) (.plain rfl) rfl)
                  apply Trace.pu [] (.move (.plain rfl))
                  apply Trace.pg [] rfl (.move (.plain rfl))
                  apply Trace.pg [] rfl (.move (.plain rfl))
                  apply Trace.pg [] rfl (.cmp (.gd rfl (fun h => h)) (.gd rfl (fun h => h)) rfl)
                  apply Trace.pu [] (.pick (.plain rfl) (.plain rfl) (.gd rfl (by simp)))
                  exact .nil _
                · exact keepOK_of hk hn rfl
                refine WPA.cond rfl (fun hc14 => ?_) (fun hc14 => ?_)
                · apply WPA.seq
                  apply WPA.region
                  · apply Trace.pu [] (.assign (.plain rfl))
                    exact .nil _
                  · exact keepOK_of hk hn rfl
                  apply WPA.ret
                  refine ⟨.inr rfl, ⟨_, (.cons (.tmp rfl) .nil), ?_⟩, by simp [St.get]⟩
                  rfl
                · obtain ⟨u, rfl, hu⟩ : ∃ u : Nat, fr = (u : Int) ∧ u < g.lat.length := by
                    have h9 : (bif decide (fr < 0) then true else decide ((g.lat.length : Int) ≤ fr)) = false := hc14
                    rw [bif_or, Bool.or_eq_false_iff, decide_eq_false_iff_not, decide_eq_false_iff_not] at h9
                    exact ⟨fr.toNat, by omega, by omega⟩
                  obtain ⟨r1, r2, r3, r4⟩ := renum_reachP hR hu
                  obtain ⟨A, hA⟩ : ∃ A, (g.reachP (u : Int)).1 = A := ⟨_, rfl⟩
                  obtain ⟨Bx, hBx⟩ : ∃ Bx, (x.reachP (num.getD u 0)).1 = Bx := ⟨_, rfl⟩
                  obtain ⟨c, hc⟩ : ∃ c, (g.reachP (u : Int)).2 = c := ⟨_, rfl⟩
                  rw [hA, hBx] at r2
                  rw [hBx] at r3 r4
                  rw [hA] at r4
                  have hA2 : A.length ≤ g.lat.length := by rw [← hA]; exact reachP_len
                  have hnu := hP.rg u hu
                  have hgA := reN hz (v := (u : Int)) (l := A) (c := c) (by rw [← hA, ← hc])
                  have hxB := reN hzx (v := num.getD u 0) (l := Bx) (c := c) (by rw [← hBx, ← hc, ← r1])
                  apply WPA.skip
                  apply WPA.seq
                  apply WPA.region
                  · first | apply Trace.pu [_] (.loadAllD ty25 (.plain rfl) rfl (by simp)) | apply Trace.pu [_] (.loadLocD ty25 (.plain rfl) rfl (fun _ => by simp)) | apply Trace.pu [_] (.loadLoc ty25 (.plain rfl) rfl (fun _ => Nat.le_of_ble_eq_true rfl)) | apply Trace.pu [] (.loadRp ty25 (.plain rfl) (fun _ => by decide)) | apply Trace.pu [] (.loadRp ty25 (.plain rfl) (fun _ => Nat.le_of_ble_eq_true rfl)) | apply Trace.pu [_] (.loadCol ty25 (.plain rfl) rfl rfl (fun _ => by decide) (fun _ => by omega)) | apply Trace.pu [_] (.loadArr ty25 (.plain rfl) rfl)
                    apply Trace.pu [] (.move (.plain rfl))
                    apply Trace.ct (callArgs0 (.cons (.plain rfl) (.cons (.plain rfl) .nil))) hgA en14
                    apply Trace.pu [] (.move (.plain rfl))
                    apply Trace.pu [] (.extract (.plain rfl) rfl)
                    apply Trace.pu [] (.extract (.plain rfl) rfl)
                    apply Trace.pu [] (.assign (.plain rfl))
                    apply Trace.pu [] (.assign (.plain rfl))
                    exact .nil _
                  · exact keepOK_of hk hn rfl
                  apply WPA.seq
                  apply WPA.draw mixed
                  · first | apply Trace.pu [_] (.loadAllD ty25 (.plain rfl) rfl (by simp)) | apply Trace.pu [_] (.loadLocD ty25 (.plain rfl) rfl (fun _ => by simp)) | apply Trace.pu [_] (.loadLoc ty25 (.plain rfl) rfl (fun _ => Nat.le_of_ble_eq_true rfl)) | apply Trace.pu [] (.loadRp ty25 (.plain rfl) (fun _ => by decide)) | apply Trace.pu [] (.loadRp ty25 (.plain rfl) (fun _ => Nat.le_of_ble_eq_true rfl)) | apply Trace.pu [_] (.loadCol ty25 (.plain rfl) rfl rfl (fun _ => by decide) (fun _ => by omega)) | apply Trace.pu [_] (.loadArr ty25 (.plain rfl) rfl)
                    apply Trace.pu [] (.move (.plain rfl))
                    apply Trace.pu [] (.move (.plain rfl))
                    first | apply Trace.pu [] (.indexRows el22 (.plain rfl) (.plain rfl) (fun _ => ⟨by omega, by omega⟩)) | apply Trace.pu [] (.indexOwn el22 (.plain rfl) (.plain rfl) (fun _ => ⟨by omega, by omega⟩)) | apply Trace.pu [] (.indexSl el22 (.plain rfl) (.plain rfl) (fun _ => ⟨by omega, by omega⟩))
                    first | apply Trace.pu [_] (.loadLoc1D ty3 (.plain rfl) rfl rfl) | apply Trace.pu [_] (.loadLoc1 ty3 (.plain rfl) rfl rfl) | apply Trace.pu [] (.loadRp1 ty3 (.plain rfl) rfl) | apply Trace.pu [_] (.loadCol1 ty3 (.plain rfl) rfl rfl rfl (fun _ => by omega))
                    apply Trace.ct (callArgs0 (.cons (.plain rfl) (.cons (.plain rfl) .nil))) hxB en14
                    apply Trace.pu [] (.move (.plain rfl))
                    apply Trace.pu [] (.extract (.plain rfl) rfl)
                    apply Trace.pu [] (.extract (.plain rfl) rfl)
                    apply Trace.pu [] (.assign (.plain rfl))
                    apply Trace.pu [] (.assign (.plain rfl))
                    exact .nil _
                  · rfl
                  · exact keepOK_of hk hn rfl
                  apply WPA.seq
                  apply WPA.seq
                  apply WPA.region
                  · apply Trace.pu [] (.move (.plain rfl))
                    apply Trace.pu [] (.move (.plain rfl))
                    apply Trace.pu [] (.cmp (.plain rfl) (.plain rfl) rfl)
                    apply Trace.pu [] (.move (.plain rfl))
                    apply Trace.pg [] rfl (.move (.plain rfl))
                    apply Trace.pg [] rfl (.len rfl Try.underlying22 (.gd rfl (fun h => h)) rfl)
                    apply Trace.pg [] rfl (.move (.plain rfl))
                    apply Trace.pg [] rfl (.len rfl Try.underlying22 (.gd rfl (fun h => h)) rfl)
                    apply Trace.pg [] rfl (.cmp (.gd rfl (fun h => h)) (.gd rfl (fun h => h)) rfl)
                    apply Trace.pu [] (.pick (.plain rfl) (.plain rfl) (.gd rfl (by simp)))
                    exact .nil _
                  · exact keepOK_of hk hn rfl
                  refine WPA.cond rfl (fun hc15 => ?_) (fun hc15 => ?_)
                  · exfalso
                    have h9 : (bif !decide (c = c) then true else !decide ((A.length : Int) = Bx.length)) = true := hc15
                    rw [decide_eq_true (rfl : c = c), decide_eq_true (by omega : (A.length : Int) = Bx.length)] at h9
                    cases h9
                  · apply WPA.skip
                    apply WPA.seq
                    apply WPA.region
                    · apply Trace.pu [] (.move (.plain rfl))
                      apply Trace.makeSlice 257 [] so43 by4 zo4 rfl (by decide) (.plain rfl) (.plain rfl) ⟨by omega, by omega⟩ (by omega) (by omega) rfl rfl
                      apply Trace.pu [] (.assign (.plain rfl))
                      exact .nil _
                    · exact keepOK_of hk hn rfl
                    apply WPA.seq
                    apply WPA.seq
                    apply WPA.region
                    · apply Trace.pu [] (.assign (.plain rfl))
                      exact .nil _
                    · exact keepOK_of hk hn rfl
                    apply WPA.block
                    refine WPA.loop (σ := Nat) (fun i => [(sl 7, .av (iv .i64 (g.lat.length))), (sl 8, .av (.own 46 g.lat.length)), (bk 46, .blk (.app 1 g.lat.length [.ints .i64 (num)])), (sl 20, .av (.d (intsD A))), (sl 22, .av (.d (intsD Bx))), (sl 24, .av (.own 257 g.lat.length)), (sl 25, .av (iv .i64 (i))), (bk 257, .blk (.app 1 g.lat.length [.bools (putTo g.lat.length Bx i)]))]) (fun i => i ≤ Bx.length) (fun i => Bx.length - i) 0
                      (St.le_cons rfl (St.le_cons rfl (St.le_cons rfl (St.le_cons rfl (St.le_cons rfl (St.le_cons rfl (St.le_cons rfl (St.le_cons rfl (St.le_nil _))))))))) (Nat.zero_le _) fun i hi5 => ?_
                    apply WPA.seq
                    apply WPA.seq
                    apply WPA.region
                    · apply Trace.pu [] (.move (.plain rfl))
                      apply Trace.pu [] (.move (.plain rfl))
                      apply Trace.pu [] (.len rfl Try.underlying22 (.plain rfl) rfl)
                      apply Trace.pu [] (.cmp (.plain rfl) (.plain rfl) rfl)
                      exact .nil _
                    · exact keepOK_of hk hn rfl
                    refine WPA.cond rfl (fun hc16 => ?_) (fun hc16 => ?_)
                    · have hlt : i < Bx.length := by simpa using hc16
                      obtain ⟨w, hw, hwn⟩ := r3 (Bx.getD i 0) (by rw [getD_lt _ _ hlt]; exact List.getElem_mem _)
                      have hw2 : Bx.getD ((i : Nat) : Int).toNat 0 = (w : Int) := hw
                      have hpl := putTo_len g.lat.length Bx i
                      apply WPA.skip
                      apply WPA.seq
                      apply WPA.block
                      apply WPA.seq
                      apply WPA.seq
                      apply WPA.region
                      · apply Trace.pu [] (.move (.plain rfl))
                        apply Trace.pu [] (.move (.plain rfl))
                        first | apply Trace.pu [] (.indexRows el22 (.plain rfl) (.plain rfl) (fun _ => ⟨by omega, by omega⟩)) | apply Trace.pu [] (.indexOwn el22 (.plain rfl) (.plain rfl) (fun _ => ⟨by omega, by omega⟩)) | apply Trace.pu [] (.indexSl el22 (.plain rfl) (.plain rfl) (fun _ => ⟨by omega, by omega⟩))
                        first | apply Trace.pu [_] (.loadLoc1D ty3 (.plain rfl) rfl rfl) | apply Trace.pu [_] (.loadLoc1 ty3 (.plain rfl) rfl rfl) | apply Trace.pu [] (.loadRp1 ty3 (.plain rfl) rfl) | apply Trace.pu [_] (.loadCol1 ty3 (.plain rfl) rfl rfl rfl (fun _ => by omega))
                        apply Trace.pu [] ((Pure.cmp (.plain rfl) (.plain rfl) rfl).to (y := bv false) (congrArg bv (decide_eq_false (by omega))))
                        apply Trace.pu [] (.move (.plain rfl))
                        apply Trace.pg [] rfl (.move (.plain rfl))
                        apply Trace.pg [] rfl (.move (.plain rfl))
                        first | apply Trace.pg [] rfl (.indexRows el22 (.gd rfl (fun h => h)) (.gd rfl (fun h => h)) (fun _ => ⟨by omega, by omega⟩)) | apply Trace.pg [] rfl (.indexOwn el22 (.gd rfl (fun h => h)) (.gd rfl (fun h => h)) (fun _ => ⟨by omega, by omega⟩)) | apply Trace.pg [] rfl (.indexSl el22 (.gd rfl (fun h => h)) (.gd rfl (fun h => h)) (fun _ => ⟨by omega, by omega⟩))
                        first | apply Trace.pg [_] rfl (.loadLoc1D ty3 (.gd rfl (fun h => h)) rfl rfl) | apply Trace.pg [_] rfl (.loadLoc1 ty3 (.gd rfl (fun h => h)) rfl rfl) | apply Trace.pg [] rfl (.loadRp1 ty3 (.gd rfl (fun h => h)) rfl) | apply Trace.pg [_] rfl (.loadCol1 ty3 (.gd rfl (fun h => h)) rfl rfl rfl (fun _ => by omega))
                        apply Trace.pg [] rfl (.move (.plain rfl))
                        apply Trace.pg [] rfl ((Pure.cmp (.gd rfl (fun h => h)) (.gd rfl (fun h => h)) rfl).to (y := bv false) (congrArg bv (decide_eq_false (by omega))))
                        apply Trace.pu [] (.pick (.plain rfl) (.plain rfl) (.gd rfl (by simp)))
                        exact .nil _
                      · exact keepOK_of hk hn rfl
                      refine WPA.cond rfl (fun hc17 => ?_) (fun hc17 => ?_)
                      · cases hc17
                      · apply WPA.skip
                        apply WPA.region
                        · apply Trace.pu [] (.move (.plain rfl))
                          apply Trace.pu [] (.move (.plain rfl))
                          apply Trace.pu [] (.move (.plain rfl))
                          first | apply Trace.pu [] (.indexRows el22 (.plain rfl) (.plain rfl) (fun _ => ⟨by omega, by omega⟩)) | apply Trace.pu [] (.indexOwn el22 (.plain rfl) (.plain rfl) (fun _ => ⟨by omega, by omega⟩)) | apply Trace.pu [] (.indexSl el22 (.plain rfl) (.plain rfl) (fun _ => ⟨by omega, by omega⟩))
                          first | apply Trace.pu [_] (.loadLoc1D ty3 (.plain rfl) rfl rfl) | apply Trace.pu [_] (.loadLoc1 ty3 (.plain rfl) rfl rfl) | apply Trace.pu [] (.loadRp1 ty3 (.plain rfl) rfl) | apply Trace.pu [_] (.loadCol1 ty3 (.plain rfl) rfl rfl rfl (fun _ => by omega))
                          first | apply Trace.pu [] (.indexRows el43 (.plain rfl) (.plain rfl) (fun _ => ⟨by omega, by omega⟩)) | apply Trace.pu [] (.indexOwn el43 (.plain rfl) (.plain rfl) (fun _ => ⟨by omega, by omega⟩)) | apply Trace.pu [] (.indexSl el43 (.plain rfl) (.plain rfl) (fun _ => ⟨by omega, by omega⟩))
                          first | apply Trace.storeD ty4 (.plain rfl) (.plain rfl) rfl rfl rfl (by simp [AV.oneB, single]) (Nat.le_of_ble_eq_true rfl) rfl | apply Trace.storeDA ty4 (.plain rfl) (.plain rfl) rfl rfl rfl (by simp [AV.oneB, single]) (Nat.le_of_ble_eq_true rfl) rfl | apply Trace.storeLoc ty4 (.plain rfl) (.plain rfl) rfl rfl rfl (by simp [AV.oneB, single]) (Nat.le_of_ble_eq_true rfl) rfl | apply Trace.storeRow ty4 (.plain rfl) (.plain rfl) rfl rfl rfl rfl (by decide) (by simp [AV.oneB, single]) rfl (by omega)
                          exact .nil _
                        · exact keepOK_of hk hn rfl
                        apply WPA.region
                        · apply Trace.pu [] (.move (.plain rfl))
                          apply Trace.pu [] (.arith (.plain rfl) (.plain rfl) rfl (fun _ => bd64 (by omega)))
                          apply Trace.pu [] (.assign (.plain rfl))
                          exact .nil _
                        · exact keepOK_of hk hn rfl
                        exact ⟨i + 1, by omega, by omega, St.le_cons rfl (St.le_cons rfl (St.le_cons rfl (St.le_cons rfl (St.le_cons rfl (St.le_cons rfl (St.le_cons (slI (by omega)) (St.le_cons rfl (St.le_nil _))))))))⟩
                    · have him5 : i = Bx.length := by
                        have : ¬ ((i : Int) < Bx.length) := by simpa using hc16
                        omega
                      subst him5
                      have hpl := putTo_len g.lat.length Bx Bx.length
                      have hse : ∀ y ∈ Bx, seen (putTo g.lat.length Bx Bx.length) y.toNat = true := fun y hy => (seen_put _ (Nat.le_refl _) fun z hz => by
                        obtain ⟨w, rfl, hw⟩ := r3 z hz; simpa using hw).2 (by
                        obtain ⟨j, hj, rfl⟩ := List.mem_iff_getElem.1 hy
                        exact ⟨j, hj, by rw [getD_lt _ _ hj]⟩)
                      apply WPA.exit
                      apply WPA.seq
                      apply WPA.seq
                      apply WPA.region
                      · apply Trace.pu [] (.assign (.plain rfl))
                        exact .nil _
                      · exact keepOK_of hk hn rfl
                      apply WPA.block
                      refine WPA.loop (σ := Nat) (fun i => [(sl 7, .av (iv .i64 (g.lat.length))), (sl 8, .av (.own 46 g.lat.length)), (bk 46, .blk (.app 1 g.lat.length [.ints .i64 (num)])), (sl 20, .av (.d (intsD A))), (sl 22, .av (.d (intsD Bx))), (sl 24, .av (.own 257 g.lat.length)), (sl 26, .av (iv .i64 (i))), (bk 257, .blk (.app 1 g.lat.length [.bools (putTo g.lat.length Bx Bx.length)]))]) (fun i => i ≤ A.length) (fun i => A.length - i) 0
                        (St.le_cons rfl (St.le_cons rfl (St.le_cons rfl (St.le_cons rfl (St.le_cons rfl (St.le_cons rfl (St.le_cons rfl (St.le_cons rfl (St.le_nil _))))))))) (Nat.zero_le _) fun i hi6 => ?_
                      apply WPA.seq
                      apply WPA.seq
                      apply WPA.region
                      · apply Trace.pu [] (.move (.plain rfl))
                        apply Trace.pu [] (.move (.plain rfl))
                        apply Trace.pu [] (.len rfl Try.underlying22 (.plain rfl) rfl)
                        apply Trace.pu [] (.cmp (.plain rfl) (.plain rfl) rfl)
                        exact .nil _
                      · exact keepOK_of hk hn rfl
                      refine WPA.cond rfl (fun hc18 => ?_) (fun hc18 => ?_)
                      · have hlt : i < A.length := by simpa using hc18
                        obtain ⟨v, hv, hvn, hvB⟩ := r4 (A.getD i 0) (by rw [getD_lt _ _ hlt]; exact List.getElem_mem _)
                        have hv2 : A.getD ((i : Nat) : Int).toNat 0 = (v : Int) := hv
                        have hnv := hP.rg v hvn
                        have hnv2 : 0 ≤ num.getD (A.getD ((i : Nat) : Int).toNat 0).toNat 0 ∧ (num.getD (A.getD ((i : Nat) : Int).toNat 0).toNat 0).toNat < g.lat.length := by rw [hv2]; exact hnv
                        have hsv : seen (putTo g.lat.length Bx Bx.length) (num.getD (A.getD ((i : Nat) : Int).toNat 0).toNat 0).toNat = true := by rw [hv2]; exact hse _ hvB
                        apply WPA.skip
                        apply WPA.seq
                        apply WPA.block
                        apply WPA.seq
                        apply WPA.region
                        · apply Trace.pu [] (.move (.plain rfl))
                          apply Trace.pu [] (.move (.plain rfl))
                          first | apply Trace.pu [] (.indexRows el22 (.plain rfl) (.plain rfl) (fun _ => ⟨by omega, by omega⟩)) | apply Trace.pu [] (.indexOwn el22 (.plain rfl) (.plain rfl) (fun _ => ⟨by omega, by omega⟩)) | apply Trace.pu [] (.indexSl el22 (.plain rfl) (.plain rfl) (fun _ => ⟨by omega, by omega⟩))
                          first | apply Trace.pu [_] (.loadLoc1D ty3 (.plain rfl) rfl rfl) | apply Trace.pu [_] (.loadLoc1 ty3 (.plain rfl) rfl rfl) | apply Trace.pu [] (.loadRp1 ty3 (.plain rfl) rfl) | apply Trace.pu [_] (.loadCol1 ty3 (.plain rfl) rfl rfl rfl (fun _ => by omega))
                          apply Trace.pu [] ((Pure.cmp (.plain rfl) (.plain rfl) rfl).to (y := bv false) (congrArg bv (decide_eq_false (by omega))))
                          apply Trace.pu [] (.move (.plain rfl))
                          apply Trace.pg [] rfl (.move (.plain rfl))
                          apply Trace.pg [] rfl (.move (.plain rfl))
                          first | apply Trace.pg [] rfl (.indexRows el22 (.gd rfl (fun h => h)) (.gd rfl (fun h => h)) (fun _ => ⟨by omega, by omega⟩)) | apply Trace.pg [] rfl (.indexOwn el22 (.gd rfl (fun h => h)) (.gd rfl (fun h => h)) (fun _ => ⟨by omega, by omega⟩)) | apply Trace.pg [] rfl (.indexSl el22 (.gd rfl (fun h => h)) (.gd rfl (fun h => h)) (fun _ => ⟨by omega, by omega⟩))
                          first | apply Trace.pg [_] rfl (.loadLoc1D ty3 (.gd rfl (fun h => h)) rfl rfl) | apply Trace.pg [_] rfl (.loadLoc1 ty3 (.gd rfl (fun h => h)) rfl rfl) | apply Trace.pg [] rfl (.loadRp1 ty3 (.gd rfl (fun h => h)) rfl) | apply Trace.pg [_] rfl (.loadCol1 ty3 (.gd rfl (fun h => h)) rfl rfl rfl (fun _ => by omega))
                          apply Trace.pg [] rfl (.move (.plain rfl))
                          apply Trace.pg [] rfl ((Pure.cmp (.gd rfl (fun h => h)) (.gd rfl (fun h => h)) rfl).to (y := bv false) (congrArg bv (decide_eq_false (by omega))))
                          apply Trace.pu [] (.pick (.plain rfl) (.plain rfl) (.gd rfl (by simp)))
                          apply Trace.pu [] (.move (.plain rfl))
                          apply Trace.pg [] rfl (.move (.plain rfl))
                          apply Trace.pg [] rfl (.move (.plain rfl))
                          apply Trace.pg [] rfl (.move (.plain rfl))
                          apply Trace.pg [] rfl (.move (.plain rfl))
                          first | apply Trace.pg [] rfl (.indexRows el22 (.gd rfl (fun h => h)) (.gd rfl (fun h => h)) (fun _ => ⟨by omega, by omega⟩)) | apply Trace.pg [] rfl (.indexOwn el22 (.gd rfl (fun h => h)) (.gd rfl (fun h => h)) (fun _ => ⟨by omega, by omega⟩)) | apply Trace.pg [] rfl (.indexSl el22 (.gd rfl (fun h => h)) (.gd rfl (fun h => h)) (fun _ => ⟨by omega, by omega⟩))
                          first | apply Trace.pg [_] rfl (.loadLoc1D ty3 (.gd rfl (fun h => h)) rfl rfl) | apply Trace.pg [_] rfl (.loadLoc1 ty3 (.gd rfl (fun h => h)) rfl rfl) | apply Trace.pg [] rfl (.loadRp1 ty3 (.gd rfl (fun h => h)) rfl) | apply Trace.pg [_] rfl (.loadCol1 ty3 (.gd rfl (fun h => h)) rfl rfl rfl (fun _ => by omega))
                          first | apply Trace.pg [] rfl (.indexRows el22 (.gd rfl (fun h => h)) (.gd rfl (fun h => h)) (fun _ => ⟨by omega, by omega⟩)) | apply Trace.pg [] rfl (.indexOwn el22 (.gd rfl (fun h => h)) (.gd rfl (fun h => h)) (fun _ => ⟨by omega, by omega⟩)) | apply Trace.pg [] rfl (.indexSl el22 (.gd rfl (fun h => h)) (.gd rfl (fun h => h)) (fun _ => ⟨by omega, by omega⟩))
                          first | apply Trace.pg [_] rfl (.loadLoc1D ty3 (.gd rfl (fun h => h)) rfl rfl) | apply Trace.pg [_] rfl (.loadLoc1 ty3 (.gd rfl (fun h => h)) rfl rfl) | apply Trace.pg [] rfl (.loadRp1 ty3 (.gd rfl (fun h => h)) rfl) | apply Trace.pg [_] rfl (.loadCol1 ty3 (.gd rfl (fun h => h)) rfl rfl rfl (fun _ => by omega))
                          first | apply Trace.pg [] rfl (.indexRows el43 (.gd rfl (fun h => h)) (.gd rfl (fun h => h)) (fun _ => ⟨by omega, by omega⟩)) | apply Trace.pg [] rfl (.indexOwn el43 (.gd rfl (fun h => h)) (.gd rfl (fun h => h)) (fun _ => ⟨by omega, by omega⟩)) | apply Trace.pg [] rfl (.indexSl el43 (.gd rfl (fun h => h)) (.gd rfl (fun h => h)) (fun _ => ⟨by omega, by omega⟩))
                          first | apply Trace.pg [_] rfl (.loadLoc1D ty4 (.gd rfl (fun h => h)) rfl rfl) | apply Trace.pg [_] rfl (.loadLoc1 ty4 (.gd rfl (fun h => h)) rfl rfl) | apply Trace.pg [] rfl (.loadRp1 ty4 (.gd rfl (fun h => h)) rfl) | apply Trace.pg [_] rfl (.loadCol1 ty4 (.gd rfl (fun h => h)) rfl rfl rfl (fun _ => by omega))
                          apply Trace.pg [] rfl (.not (.gd rfl (fun h => h)))
                          apply Trace.pu [] (.pick (.plain rfl) (.plain rfl) (.gd rfl (by simp)))
                          exact .nil _
                        · exact keepOK_of hk hn rfl
                        refine WPA.cond rfl (fun hc19 => ?_) (fun hc19 => ?_)
                        · exfalso
                          have h9 : (!(seen (putTo g.lat.length Bx Bx.length) (num.getD (A.getD ((i : Nat) : Int).toNat 0).toNat 0).toNat)) = true := hc19
                          rw [hsv] at h9; cases h9
                        · apply WPA.skip
                          apply WPA.region
                          · apply Trace.pu [] (.move (.plain rfl))
                            apply Trace.pu [] (.arith (.plain rfl) (.plain rfl) rfl (fun _ => bd64 (by omega)))
                            apply Trace.pu [] (.assign (.plain rfl))
                            exact .nil _
                          · exact keepOK_of hk hn rfl
                          exact ⟨i + 1, by omega, by omega, St.le_cons rfl (St.le_cons rfl (St.le_cons rfl (St.le_cons rfl (St.le_cons rfl (St.le_cons rfl (St.le_cons (slI (by omega)) (St.le_cons rfl (St.le_nil _))))))))⟩
                      · apply WPA.exit
                        apply WPA.seq
                        apply WPA.region
                        · apply Trace.pu [] (.assign (.plain rfl))
                          exact .nil _
                        · exact keepOK_of hk hn rfl
                        apply WPA.ret
                        refine ⟨.inr rfl, ⟨_, (.cons (.tmp rfl) .nil), ?_⟩, by simp [St.get]⟩
                        rfl

end Go.Proofs.Ytcnikeonaklkoaa

