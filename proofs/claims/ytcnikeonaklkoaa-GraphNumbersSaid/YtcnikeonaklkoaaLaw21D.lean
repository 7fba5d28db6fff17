/- GraphFound. -/
import Derived.Test.YtcnikeonaklkoaaLaw21C
namespace Go.Proofs.Ytcnikeonaklkoaa
open Go
set_option linter.unusedVariables false
set_option linter.unusedSimpArgs false
set_option maxRecDepth 10000
set_option maxHeartbeats 2000000

theorem wrapI {x : Int} (h : -9223372036854775808 ≤ x ∧ x ≤ 9223372036854775807) : IntKind.i64.wrap x = x := IntKind.wrap_in _ _ (bd64 h)
theorem check_zero {g : Gr} (h : g.check = 0) : g.formed = 0 ∧ g.short = false := by
  unfold Gr.check at h
  cases hl : g.looped with
  | true => rw [hl] at h; cases h
  | false =>
    rw [hl] at h
    have h : g.formed = 0 := h
    refine ⟨h, ?_⟩
    unfold Gr.looped at hl
    rw [decide_eq_true h] at hl
    simpa using hl
theorem check_pot {g : Gr} (h : g.check = 0) : g.OK ∧ ∃ F, PotF g F := by
  obtain ⟨h1, h2⟩ := check_zero h
  exact ⟨g.ok_of h1, (short_pot (g.ok_of h1)).1 h2⟩
def Gr.outB (g : Gr) (a j : Nat) : Bool := decide ((g.es.getD j default).f = (a : Int))
def Gr.outL (g : Gr) (a k : Nat) : List Int := List.map (fun u : Nat => (u : Int)) ((List.range k).filter (g.outB a))
theorem outL_succ (g : Gr) (a k : Nat) : g.outL a (k + 1) = g.outL a k ++ if g.outB a k = true then [(k : Int)] else [] := by
  unfold Gr.outL
  rw [List.range_succ, List.filter_append, List.map_append]
  congr 1
  by_cases h : g.outB a k = true
  · rw [if_pos h, List.filter_cons_of_pos h]; rfl
  · rw [if_neg h, List.filter_cons_of_neg h]; rfl
theorem outL_len (g : Gr) (a k : Nat) : (g.outL a k).length ≤ k := by
  unfold Gr.outL
  rw [List.length_map]
  exact Nat.le_trans (List.length_filter_le _ _) (by simp)
theorem mem_outL {g : Gr} {a k : Nat} {x : Int} (h : x ∈ g.outL a k) : ∃ u : Nat, x = (u : Int) ∧ u < k ∧ (g.es.getD u default).f = (a : Int) := by
  unfold Gr.outL at h
  simp only [List.mem_map, List.mem_filter, List.mem_range] at h
  obtain ⟨u, ⟨a, b⟩, rfl⟩ := h
  exact ⟨u, rfl, a, of_decide_eq_true b⟩
abbrev Gr.fr (g : Gr) (x : Int) : Nat := (g.eAt x).f.toNat
structure WayOK (g : Gr) (way : List Int) : Prop where
  rg : ∀ x ∈ way, 0 ≤ x ∧ x.toNat < g.es.length
  nd : (way.map g.fr).Nodup
theorem WayOK.len {g : Gr} (hok : g.OK) {way : List Int} (h : WayOK g way) : way.length ≤ g.lat.length := by
  have := pigeon g.lat.length (way.map g.fr) h.nd fun x hx => by
    obtain ⟨y, hy, rfl⟩ := List.mem_map.1 hx
    exact (Gr.edge hok (h.rg y hy).2).2.1
  simpa using this
theorem WayOK.push {g : Gr} {way : List Int} (h : WayOK g way) {k : Nat} (hk : k < g.es.length) (hn : ∀ p, p < way.length → (g.eAt (way.getD p 0)).f.toNat ≠ (g.eAt (k : Int)).f.toNat) : WayOK g (way ++ [(k : Int)]) := by
  refine ⟨fun x hx => ?_, ?_⟩
  · rcases List.mem_append.1 hx with hx | hx
    · exact h.rg x hx
    · simp only [List.mem_singleton] at hx; subst hx; exact ⟨by omega, by simpa using hk⟩
  · rw [List.map_append, List.nodup_append]
    refine ⟨h.nd, by simp, fun a ha b hb => ?_⟩
    simp only [List.map_cons, List.map_nil, List.mem_singleton] at hb
    subst hb
    obtain ⟨y, hy, rfl⟩ := List.mem_map.1 ha
    obtain ⟨p, hp, rfl⟩ := List.mem_iff_getElem.1 hy
    have := hn p hp
    rwa [getD_lt _ _ hp] at this
theorem drop_rows {l : List Int} {j : Nat} : D.rows 1 (l.length - j) (fun i => [Col.at (.ints .i64 l) (j + i)]) = intsD (l.drop j) := by
  unfold intsD rowsD
  rw [List.length_drop]
  congr 1
  funext i
  simp [Col.at, List.getD_eq_getElem?_getD]
/-- soundpost/soundpostlaw21.GraphFound -/
theorem spec6 (g : Gr) (hz : g.Sz) (fr : Int) (hfr : 0 ≤ fr ∧ fr ≤ 255) (ts : List Int) (hts : ∀ x ∈ ts, 0 ≤ x ∧ x ≤ 255) (htl : ts.length ≤ 140737488355328) : FnSpec Try.prog 6 [g.av, iv .u8 fr, .d (rowsD 1 ts.length [.ints .u8 ts])] [] (bv true) [] [] := by
  have hn1 := hz.n
  have hn2 := hz.m
  refine fnSpec_of (rs := [.tmp 6]) Try.func6 rfl rfl (Nat.le_of_ble_eq_true rfl) (by simp [St.get]) fun E hk hn => ?_
  apply WPA.seq
  apply WPA.region
  · first | apply Trace.boxD 3 [] (.plain rfl) rfl rfl | apply Trace.box 3 [] (.plain rfl) rfl rfl rfl
    apply Trace.pu [] (.assign (.plain rfl))
    exact .nil _
  · exact keepOK_of hk hn rfl
  apply WPA.seq
  apply WPA.seq
  apply WPA.region
  · apply Trace.cu (callArgs0 .nil) spec10 en10
    apply Trace.pu [] (.not (.plain rfl))
    exact .nil _
  · exact keepOK_of hk hn rfl
  refine WPA.cond rfl (fun hc1 => ?_) (fun hc1 => ?_)
  · cases hc1
  · apply WPA.skip
    apply WPA.seq
    apply WPA.seq
    apply WPA.region
    · apply Trace.pu [] (.fieldAddr fl25_0 (.plain rfl) rfl)
      first | apply Trace.pu [_] (.loadLoc1D ty22 (.plain rfl) rfl rfl) | apply Trace.pu [_] (.loadLoc1 ty22 (.plain rfl) rfl rfl) | apply Trace.pu [] (.loadRp1 ty22 (.plain rfl) rfl) | apply Trace.pu [_] (.loadCol1 ty22 (.plain rfl) rfl rfl rfl (fun _ => by omega))
      apply Trace.pu [] (.len rfl Try.underlying22 (.plain rfl) rfl)
      apply Trace.pu [] (.cmp (.plain rfl) (.plain rfl) rfl)
      apply Trace.pu [] (.move (.plain rfl))
      apply Trace.pg [] rfl (.fieldAddr fl25_1 (.plain rfl) rfl)
      first | apply Trace.pg [_] rfl (.loadLoc1D ty23 (.gd rfl (fun h => h)) rfl rfl) | apply Trace.pg [_] rfl (.loadLoc1 ty23 (.gd rfl (fun h => h)) rfl rfl) | apply Trace.pg [] rfl (.loadRp1 ty23 (.gd rfl (fun h => h)) rfl) | apply Trace.pg [_] rfl (.loadCol1 ty23 (.gd rfl (fun h => h)) rfl rfl rfl (fun _ => by omega))
      apply Trace.pg [] rfl (.len rfl Try.underlying23 (.gd rfl (fun h => h)) rfl)
      apply Trace.pg [] rfl (.cmp (.gd rfl (fun h => h)) (.plain rfl) rfl)
      apply Trace.pu [] (.pick (.plain rfl) (.plain rfl) (.gd rfl (by simp)))
      apply Trace.pu [] (.move (.plain rfl))
      apply Trace.pg [] rfl (.fieldAddr fl25_0 (.plain rfl) rfl)
      first | apply Trace.pg [_] rfl (.loadLoc1D ty22 (.gd rfl (fun h => h)) rfl rfl) | apply Trace.pg [_] rfl (.loadLoc1 ty22 (.gd rfl (fun h => h)) rfl rfl) | apply Trace.pg [] rfl (.loadRp1 ty22 (.gd rfl (fun h => h)) rfl) | apply Trace.pg [_] rfl (.loadCol1 ty22 (.gd rfl (fun h => h)) rfl rfl rfl (fun _ => by omega))
      apply Trace.pg [] rfl (.len rfl Try.underlying22 (.gd rfl (fun h => h)) rfl)
      apply Trace.pg [] rfl (.cmp (.gd rfl (fun h => h)) (.plain rfl) rfl)
      apply Trace.pu [] (.pick (.plain rfl) (.plain rfl) (.gd rfl (by simp)))
      apply Trace.pu [] (.move (.plain rfl))
      first | apply Trace.pg [_] rfl (.loadAllD ty25 (.plain rfl) rfl (by simp)) | apply Trace.pg [_] rfl (.loadLocD ty25 (.plain rfl) rfl (fun _ => by simp)) | apply Trace.pg [_] rfl (.loadLoc ty25 (.plain rfl) rfl (fun _ => Nat.le_of_ble_eq_true rfl)) | apply Trace.pg [] rfl (.loadRp ty25 (.plain rfl) (fun _ => by decide)) | apply Trace.pg [] rfl (.loadRp ty25 (.plain rfl) (fun _ => Nat.le_of_ble_eq_true rfl)) | apply Trace.pg [_] rfl (.loadCol ty25 (.plain rfl) rfl rfl (fun _ => by decide) (fun _ => by omega)) | apply Trace.pg [_] rfl (.loadArr ty25 (.plain rfl) rfl)
      apply Trace.cg rfl (callArgs0 (.cons (.gd rfl (fun h => h)) .nil)) (fun _ => chN hz (c := g.check) rfl) en12
      apply Trace.pg [] rfl (.cmp (.gd rfl (fun h => h)) (.plain rfl) rfl)
      apply Trace.pu [] (.pick (.plain rfl) (.plain rfl) (.gd rfl (by simp)))
      apply Trace.pu [] (.move (.plain rfl))
      first | apply Trace.pg [_] rfl (.loadAllD ty25 (.plain rfl) rfl (by simp)) | apply Trace.pg [_] rfl (.loadLocD ty25 (.plain rfl) rfl (fun _ => by simp)) | apply Trace.pg [_] rfl (.loadLoc ty25 (.plain rfl) rfl (fun _ => Nat.le_of_ble_eq_true rfl)) | apply Trace.pg [] rfl (.loadRp ty25 (.plain rfl) (fun _ => by decide)) | apply Trace.pg [] rfl (.loadRp ty25 (.plain rfl) (fun _ => Nat.le_of_ble_eq_true rfl)) | apply Trace.pg [_] rfl (.loadCol ty25 (.plain rfl) rfl rfl (fun _ => by decide) (fun _ => by omega)) | apply Trace.pg [_] rfl (.loadArr ty25 (.plain rfl) rfl)
      apply Trace.cg rfl (callArgs0 (.cons (.gd rfl (fun h => h)) .nil)) (fun _ => spec18 g hz) en18
      apply Trace.pg [] rfl (.cmp (.gd rfl (fun h => h)) (.plain rfl) rfl)
      apply Trace.pu [] (.pick (.plain rfl) (.plain rfl) (.gd rfl (by simp)))
      exact .nil _
    · exact keepOK_of hk hn rfl
    refine WPA.cond rfl (fun hc2 => ?_) (fun hc2 => ?_)
    · apply WPA.seq
      apply WPA.region
      · apply Trace.pu [] (.assign (.plain rfl))
        exact .nil _
      · exact keepOK_of hk hn rfl
      apply WPA.ret
      refine ⟨.inr rfl, ⟨_, (.cons (.tmp rfl) .nil), ?_⟩, by simp [St.get]⟩
      rfl
    · obtain ⟨hn3, hm3, hn0, hck⟩ : g.lat.length ≤ 300 ∧ g.es.length ≤ 300 ∧ 0 < g.lat.length ∧ g.check = 0 := by
        have h9 : (bif (bif (bif (bif decide ((300 : Int) < g.lat.length) then true else decide ((300 : Int) < g.es.length)) then true else decide ((g.lat.length : Int) = 0)) then true else !decide (g.check = 0)) then true else !decide (g.formed = 0)) = false := hc2
        rw [bif_or, bif_or, bif_or, bif_or] at h9
        simp only [Bool.or_eq_false_iff, decide_eq_false_iff_not, Bool.not_eq_false', decide_eq_true_eq] at h9
        exact ⟨by omega, by omega, by omega, h9.1.2⟩
      obtain ⟨hok, Fp, hFp⟩ := check_pot hck
      obtain ⟨f0, rfl⟩ : ∃ f0 : Nat, fr = (f0 : Int) := ⟨fr.toNat, by omega⟩
      obtain ⟨a0, ha0⟩ : ∃ a0, f0 % g.lat.length = a0 := ⟨_, rfl⟩
      have ha0n : a0 < g.lat.length := by rw [← ha0]; exact Nat.mod_lt _ hn0
      apply WPA.skip
      apply WPA.seq
      apply WPA.region
      · apply Trace.pu [] (.move (.plain rfl))
        apply Trace.pu [] ((Pure.conv Try.underlying5 Try.underlying3 (.plain rfl)).to (y := iv .i64 (f0 : Nat)) (by rw [wrapI (by omega)]))
        apply Trace.pu [] (.fieldAddr fl25_0 (.plain rfl) rfl)
        first | apply Trace.pu [_] (.loadLoc1D ty22 (.plain rfl) rfl rfl) | apply Trace.pu [_] (.loadLoc1 ty22 (.plain rfl) rfl rfl) | apply Trace.pu [] (.loadRp1 ty22 (.plain rfl) rfl) | apply Trace.pu [_] (.loadCol1 ty22 (.plain rfl) rfl rfl rfl (fun _ => by omega))
        apply Trace.pu [] (.len rfl Try.underlying22 (.plain rfl) rfl)
        apply Trace.pu [] ((Pure.rem (.plain rfl) (.plain rfl) (fun _ => by omega)).to (y := iv .i64 (a0 : Nat)) (by rw [← Int.ofNat_tmod, ha0]))
        apply Trace.pu [] (.assign (.plain rfl))
        exact .nil _
      · exact keepOK_of hk hn rfl
      apply WPA.seq
      apply WPA.region
      · apply Trace.pu [] (.assign (.plain rfl))
        exact .nil _
      · exact keepOK_of hk hn rfl
      apply WPA.seq
      apply WPA.seq
      refine WPA.ghost (Ghost.ownNil' (t := 8) (l := 90) (cs := [.ints .i64 []]) (n := 1) rfl rfl (by rw [hk]; decide) (by rw [hn]; exact Nat.le_of_ble_eq_true rfl) rfl (by simp [Col.len])) ?_
      apply WPA.region
      · apply Trace.pu [] (.assign (.plain rfl))
        exact .nil _
      · exact keepOK_of hk hn rfl
      apply WPA.block
      refine WPA.loop (σ := Nat × Nat × List Int) (fun y => [(sl 2, .av (.d (rowsD 1 ts.length [.ints .u8 ts]))), (sl 3, .av (.loc 3 0)), (sl 7, .av (iv .i64 ((y.2.1 : Nat)))), (sl 8, .av (.own 90 (y.2.2).length)), (sl 9, .av (iv .i64 (y.1))), (bk 3, .blk (.data g.ds)), (bk 90, .blk (.app 1 (y.2.2).length [.ints .i64 (y.2.2)]))]) (fun y => y.1 ≤ ts.length ∧ y.2.1 < g.lat.length ∧ WayOK g y.2.2) (fun y => ts.length - y.1) (0, a0, []) (St.le_cons rfl (St.le_cons rfl (St.le_cons rfl (St.le_cons rfl (St.le_cons rfl (St.le_cons rfl (St.le_cons rfl (St.le_nil _)))))))) ⟨Nat.zero_le _, ha0n, ⟨fun x hx => (by cases hx), List.nodup_nil⟩⟩ fun y hy => ?_
      obtain ⟨i, a, way⟩ := y
      obtain ⟨hi, han, hway⟩ := hy
      have hi : i ≤ ts.length := hi
      have han : a < g.lat.length := han
      have hway : WayOK g way := hway
      have hwl := hway.len hok
      apply WPA.seq
      apply WPA.seq
      apply WPA.region
      · apply Trace.pu [] (.move (.plain rfl))
        apply Trace.pu [] (.move (.plain rfl))
        apply Trace.pu [] (.len rfl Try.underlying38 (.plain rfl) rfl)
        apply Trace.pu [] (.cmp (.plain rfl) (.plain rfl) rfl)
        exact .nil _
      · exact keepOK_of hk hn rfl
      refine WPA.cond rfl (fun hc3 => ?_) (fun hc3 => ?_)
      · have hlt : i < ts.length := by simpa using hc3
        obtain ⟨tv, htv⟩ : ∃ tv : Nat, ts.getD i 0 = (tv : Int) := by
          have := hts (ts.getD i 0) (by rw [getD_lt _ _ hlt]; exact List.getElem_mem _)
          exact ⟨(ts.getD i 0).toNat, by omega⟩
        have htv2 : ts.getD ((i : Nat) : Int).toNat 0 = (tv : Int) := htv
        have htb : tv ≤ 255 := by
          have := hts (ts.getD i 0) (by rw [getD_lt _ _ hlt]; exact List.getElem_mem _)
          omega
        apply WPA.skip
        apply WPA.seq
        apply WPA.block
        apply WPA.seq
        apply WPA.region
        · apply Trace.pu [] (.assign (.plain rfl))
          exact .nil _
        · exact keepOK_of hk hn rfl
        apply WPA.seq
        apply WPA.seq
        refine WPA.ghost (Ghost.ownNil' (t := 10) (l := 91) (cs := [.ints .i64 []]) (n := 1) rfl rfl (by rw [hk]; decide) (by rw [hn]; exact Nat.le_of_ble_eq_true rfl) rfl (by simp [Col.len])) ?_
        apply WPA.region
        · apply Trace.pu [] (.assign (.plain rfl))
          exact .nil _
        · exact keepOK_of hk hn rfl
        apply WPA.block
        refine WPA.loop (σ := Nat) (fun k => [(sl 2, .av (.d (rowsD 1 ts.length [.ints .u8 ts]))), (sl 3, .av (.loc 3 0)), (sl 7, .av (iv .i64 ((a : Nat)))), (sl 8, .av (.own 90 (way).length)), (sl 9, .av (iv .i64 (i))), (bk 3, .blk (.data g.ds)), (bk 90, .blk (.app 1 (way).length [.ints .i64 (way)])), (sl 10, .av (.own 91 (g.outL a k).length)), (sl 11, .av (iv .i64 (k))), (bk 91, .blk (.app 1 (g.outL a k).length [.ints .i64 (g.outL a k)]))]) (fun k => k ≤ g.es.length) (fun k => g.es.length - k) 0
          (St.le_cons rfl (St.le_cons rfl (St.le_cons rfl (St.le_cons rfl (St.le_cons rfl (St.le_cons rfl (St.le_cons rfl (St.le_cons rfl (St.le_cons rfl (St.le_cons rfl (St.le_nil _))))))))))) (Nat.zero_le _) fun k hk2 => ?_
        apply WPA.seq
        apply WPA.seq
        apply WPA.region
        · apply Trace.pu [] (.move (.plain rfl))
          apply Trace.pu [] (.fieldAddr fl25_1 (.plain rfl) rfl)
          first | apply Trace.pu [_] (.loadLoc1D ty23 (.plain rfl) rfl rfl) | apply Trace.pu [_] (.loadLoc1 ty23 (.plain rfl) rfl rfl) | apply Trace.pu [] (.loadRp1 ty23 (.plain rfl) rfl) | apply Trace.pu [_] (.loadCol1 ty23 (.plain rfl) rfl rfl rfl (fun _ => by omega))
          apply Trace.pu [] (.len rfl Try.underlying23 (.plain rfl) rfl)
          apply Trace.pu [] (.cmp (.plain rfl) (.plain rfl) rfl)
          exact .nil _
        · exact keepOK_of hk hn rfl
        refine WPA.cond rfl (fun hc4 => ?_) (fun hc4 => ?_)
        · have hkm : k < g.es.length := by simpa using hc4
          obtain ⟨e, he⟩ : ∃ e, g.es.getD k default = e := ⟨_, rfl⟩
          have hos := outL_succ g a k
          have hol := outL_len g a k
          have hob : g.outB a k = decide (e.f = (a : Int)) := by unfold Gr.outB; rw [he]
          apply WPA.skip
          apply WPA.seq
          apply WPA.block
          apply WPA.seq
          apply WPA.region
          · apply Trace.pu [] (.fieldAddr fl25_1 (.plain rfl) rfl)
            first | apply Trace.pu [_] (.loadLoc1D ty23 (.plain rfl) rfl rfl) | apply Trace.pu [_] (.loadLoc1 ty23 (.plain rfl) rfl rfl) | apply Trace.pu [] (.loadRp1 ty23 (.plain rfl) rfl) | apply Trace.pu [_] (.loadCol1 ty23 (.plain rfl) rfl rfl rfl (fun _ => by omega))
            apply Trace.pu [] (.move (.plain rfl))
            apply Trace.pu [] ((Pure.indexRows el23 (.plain rfl) (.plain rfl) (fun _ => ⟨by omega, by omega⟩)).to (y := .rp e.ds) (by show AV.rp (g.es.getD k default).ds = _; rw [he]))
            apply Trace.pu [] (.fieldAddr fl40_0 (.plain rfl) rfl)
            first | apply Trace.pu [_] (.loadLoc1D ty3 (.plain rfl) rfl rfl) | apply Trace.pu [_] (.loadLoc1 ty3 (.plain rfl) rfl rfl) | apply Trace.pu [] (.loadRp1 ty3 (.plain rfl) rfl) | apply Trace.pu [_] (.loadCol1 ty3 (.plain rfl) rfl rfl rfl (fun _ => by omega))
            apply Trace.pu [] (.move (.plain rfl))
            apply Trace.pu [] (.cmp (.plain rfl) (.plain rfl) rfl)
            exact .nil _
          · exact keepOK_of hk hn rfl
          refine WPA.cond rfl (fun hc5 => ?_) (fun hc5 => ?_)
          · rw [hob, decide_eq_true (of_decide_eq_true hc5), if_pos rfl] at hos
            apply WPA.region
            · apply Trace.pu [] (.move (.plain rfl))
              apply Trace.pu [] (.move (.plain rfl))
              apply Trace.buildSlice 73 [] so22 zo3 rfl (by decide) (by decide) (.cons (.plain rfl) rfl rfl (Nat.le_of_ble_eq_true rfl) (.nil _ _)) rfl rfl rfl
              apply Trace.append 74 [bk 91, bk 73, sl 71, sl 73, sl 10] ap22 kd22 (by decide) (.own (.plain rfl) rfl) (.own (.plain rfl) rfl) (Col.ones rfl) (labs_ok rfl) (by omega) (by omega) rfl rfl
              apply Trace.pu [] (.assign (.plain rfl))
              exact .nil _
            · exact keepOK_of hk hn rfl
            refine WPA.ghost (Ghost.swap 91 74 (by rw [hk]; decide) (by rw [hk]; decide) rfl) ?_
            apply WPA.region
            · apply Trace.pu [] (.move (.plain rfl))
              apply Trace.pu [] (.arith (.plain rfl) (.plain rfl) rfl (fun _ => bd64 (by omega)))
              apply Trace.pu [] (.assign (.plain rfl))
              exact .nil _
            · exact keepOK_of hk hn rfl
            refine ⟨k + 1, by omega, by omega, ?_⟩
            rw [hos]
            first
              | exact (St.le_cons rfl (St.le_cons rfl (St.le_cons rfl (St.le_cons rfl (St.le_cons rfl (St.le_cons rfl (St.le_cons rfl (St.le_cons rfl (St.le_cons (slI (by omega)) (St.le_cons rfl (St.le_nil _)))))))))))
              | exact (St.le_cons rfl (St.le_cons rfl (St.le_cons rfl (St.le_cons rfl (St.le_cons rfl (St.le_cons rfl (St.le_cons rfl (St.le_cons (by rw [List.length_append]; rfl) (St.le_cons (slI (by omega)) (St.le_cons (by rw [List.length_append]; rfl) (St.le_nil _)))))))))))
          · rw [hob, decide_eq_false (of_decide_eq_false hc5), if_neg (by decide), List.append_nil] at hos
            refine WPA.ghost (Ghost.swap 91 74 (by rw [hk]; decide) (by rw [hk]; decide) rfl) ?_
            apply WPA.skip
            refine WPA.ghost (Ghost.swap 91 74 (by rw [hk]; decide) (by rw [hk]; decide) rfl) ?_
            apply WPA.region
            · apply Trace.pu [] (.move (.plain rfl))
              apply Trace.pu [] (.arith (.plain rfl) (.plain rfl) rfl (fun _ => bd64 (by omega)))
              apply Trace.pu [] (.assign (.plain rfl))
              exact .nil _
            · exact keepOK_of hk hn rfl
            refine ⟨k + 1, by omega, by omega, ?_⟩
            rw [hos]
            first
              | exact (St.le_cons rfl (St.le_cons rfl (St.le_cons rfl (St.le_cons rfl (St.le_cons rfl (St.le_cons rfl (St.le_cons rfl (St.le_cons rfl (St.le_cons (slI (by omega)) (St.le_cons rfl (St.le_nil _)))))))))))
              | exact (St.le_cons rfl (St.le_cons rfl (St.le_cons rfl (St.le_cons rfl (St.le_cons rfl (St.le_cons rfl (St.le_cons rfl (St.le_cons (by rw [List.length_append]; rfl) (St.le_cons (slI (by omega)) (St.le_cons (by rw [List.length_append]; rfl) (St.le_nil _)))))))))))
        · have hkm : k = g.es.length := by
            have : ¬ ((k : Int) < g.es.length) := by simpa using hc4
            omega
          subst hkm
          refine WPA.weaken (T := [(sl 2, .av (.d (rowsD 1 ts.length [.ints .u8 ts]))), (sl 3, .av (.loc 3 0)), (sl 7, .av (iv .i64 ((a : Nat)))), (sl 8, .av (.own 90 (way).length)), (sl 9, .av (iv .i64 (i))), (bk 3, .blk (.data g.ds)), (bk 90, .blk (.app 1 (way).length [.ints .i64 (way)])), (sl 10, .av (.own 91 (g.outL a g.es.length).length)), (bk 91, .blk (.app 1 (g.outL a g.es.length).length [.ints .i64 (g.outL a g.es.length)]))]) ?_ (St.le_cons rfl (St.le_cons rfl (St.le_cons rfl (St.le_cons rfl (St.le_cons rfl (St.le_cons rfl (St.le_cons rfl (St.le_cons rfl (St.le_cons rfl (St.le_nil _))))))))))
          apply WPA.exit
          apply WPA.seq
          apply WPA.seq
          apply WPA.region
          · apply Trace.pu [] (.move (.plain rfl))
            apply Trace.pu [] (.len rfl Try.underlying22 (.plain rfl) rfl)
            apply Trace.pu [] (.cmp (.plain rfl) (.plain rfl) rfl)
            exact .nil _
          · exact keepOK_of hk hn rfl
          refine WPA.cond rfl (fun hc6 => ?_) (fun hc6 => ?_)
          · apply WPA.seq
            apply WPA.region
            · apply Trace.pu [] (.assign (.plain rfl))
              exact .nil _
            · exact keepOK_of hk hn rfl
            apply WPA.ret
            refine ⟨.inr rfl, ⟨_, (.cons (.tmp rfl) .nil), ?_⟩, by simp [St.get]⟩
            rfl
          · have hpos : 0 < (g.outL a g.es.length).length := by
              have : ¬ (((g.outL a g.es.length).length : Int) = 0) := of_decide_eq_false hc6
              omega
            have hol := outL_len g a g.es.length
            obtain ⟨w, hw⟩ : ∃ w, tv % (g.outL a g.es.length).length = w := ⟨_, rfl⟩
            have hwl2 : w < (g.outL a g.es.length).length := by rw [← hw]; exact Nat.mod_lt _ hpos
            obtain ⟨k, hkx, hkm, hkf⟩ := mem_outL (show (g.outL a g.es.length).getD w 0 ∈ _ by rw [getD_lt _ _ hwl2]; exact List.getElem_mem _)
            have hkx2 : (g.outL a g.es.length).getD ((w : Nat) : Int).toNat 0 = (k : Int) := hkx
            apply WPA.skip
            apply WPA.seq
            apply WPA.region
            · apply Trace.pu [] (.move (.plain rfl))
              apply Trace.pu [] (.move (.plain rfl))
              apply Trace.pu [] (.move (.plain rfl))
              first | apply Trace.pu [] (.indexRows el38 (.plain rfl) (.plain rfl) (fun _ => ⟨by omega, by omega⟩)) | apply Trace.pu [] (.indexOwn el38 (.plain rfl) (.plain rfl) (fun _ => ⟨by omega, by omega⟩)) | apply Trace.pu [] (.indexSl el38 (.plain rfl) (.plain rfl) (fun _ => ⟨by omega, by omega⟩))
              first | apply Trace.pu [_] (.loadLoc1D ty5 (.plain rfl) rfl rfl) | apply Trace.pu [_] (.loadLoc1 ty5 (.plain rfl) rfl rfl) | apply Trace.pu [] (.loadRp1 ty5 (.plain rfl) rfl) | apply Trace.pu [_] (.loadCol1 ty5 (.plain rfl) rfl rfl rfl (fun _ => by omega))
              apply Trace.pu [] ((Pure.conv Try.underlying5 Try.underlying3 (.plain rfl)).to (y := iv .i64 (tv : Nat)) (by rw [htv2, wrapI (by omega)]))
              apply Trace.pu [] (.move (.plain rfl))
              apply Trace.pu [] (.len rfl Try.underlying22 (.plain rfl) rfl)
              apply Trace.pu [] ((Pure.rem (.plain rfl) (.plain rfl) (fun _ => by omega)).to (y := iv .i64 (w : Nat)) (by rw [← Int.ofNat_tmod, hw]))
              first | apply Trace.pu [] (.indexRows el22 (.plain rfl) (.plain rfl) (fun _ => ⟨by omega, by omega⟩)) | apply Trace.pu [] (.indexOwn el22 (.plain rfl) (.plain rfl) (fun _ => ⟨by omega, by omega⟩)) | apply Trace.pu [] (.indexSl el22 (.plain rfl) (.plain rfl) (fun _ => ⟨by omega, by omega⟩))
              first | apply Trace.pu [_] (.loadLoc1D ty3 (.plain rfl) rfl rfl) | apply Trace.pu [_] (.loadLoc1 ty3 (.plain rfl) rfl rfl) | apply Trace.pu [] (.loadRp1 ty3 (.plain rfl) rfl) | apply Trace.pu [_] (.loadCol1 ty3 (.plain rfl) rfl rfl rfl (fun _ => by omega))
              apply Trace.pu [] (.assign (.plain rfl))
              exact .nil _
            · exact keepOK_of hk hn rfl
            apply WPA.seq
            apply WPA.seq
            refine WPA.weaken (T := [(sl 2, .av (.d (rowsD 1 ts.length [.ints .u8 ts]))), (sl 3, .av (.loc 3 0)), (sl 7, .av (iv .i64 ((a : Nat)))), (sl 8, .av (.own 90 (way).length)), (sl 9, .av (iv .i64 (i))), (bk 3, .blk (.data g.ds)), (bk 90, .blk (.app 1 (way).length [.ints .i64 (way)])), (sl 12, .av (iv .i64 ((k : Nat))))]) ?_ (St.le_cons rfl (St.le_cons rfl (St.le_cons rfl (St.le_cons rfl (St.le_cons rfl (St.le_cons rfl (St.le_cons rfl (St.le_cons (slI hkx2) (St.le_nil _)))))))))
            apply WPA.region
            · apply Trace.pu [] (.assign (.plain rfl))
              exact .nil _
            · exact keepOK_of hk hn rfl
            apply WPA.block
            refine WPA.loop (σ := Nat) (fun j => [(sl 2, .av (.d (rowsD 1 ts.length [.ints .u8 ts]))), (sl 3, .av (.loc 3 0)), (sl 7, .av (iv .i64 ((a : Nat)))), (sl 8, .av (.own 90 (way).length)), (sl 9, .av (iv .i64 (i))), (bk 3, .blk (.data g.ds)), (bk 90, .blk (.app 1 (way).length [.ints .i64 (way)])), (sl 12, .av (iv .i64 ((k : Nat)))), (sl 13, .av (iv .i64 (j)))]) (fun j => j ≤ way.length ∧ ∀ p, p < j → (g.eAt (way.getD p 0)).f ≠ (a : Int)) (fun j => way.length - j) 0
              (St.le_cons rfl (St.le_cons rfl (St.le_cons rfl (St.le_cons rfl (St.le_cons rfl (St.le_cons rfl (St.le_cons rfl (St.le_cons rfl (St.le_cons rfl (St.le_nil _)))))))))) ⟨Nat.zero_le _, fun p h => by omega⟩ fun j hj => ?_
            apply WPA.seq
            apply WPA.seq
            apply WPA.region
            · apply Trace.pu [] (.move (.plain rfl))
              apply Trace.pu [] (.move (.plain rfl))
              apply Trace.pu [] (.len rfl Try.underlying22 (.plain rfl) rfl)
              apply Trace.pu [] (.cmp (.plain rfl) (.plain rfl) rfl)
              exact .nil _
            · exact keepOK_of hk hn rfl
            refine WPA.cond rfl (fun hc7 => ?_) (fun hc7 => ?_)
            · have hjl : j < way.length := by simpa using hc7
              obtain ⟨z, hzz⟩ : ∃ z, way.getD j 0 = z := ⟨_, rfl⟩
              have hzm := hway.rg z (by rw [← hzz, getD_lt _ _ hjl]; exact List.getElem_mem _)
              have hzz2 : way.getD ((j : Nat) : Int).toNat 0 = z := hzz
              obtain ⟨e3, he3⟩ : ∃ e3, g.es.getD z.toNat default = e3 := ⟨_, rfl⟩
              have hze : g.eAt (way.getD j 0) = e3 := by rw [hzz]; exact he3
              apply WPA.skip
              apply WPA.seq
              apply WPA.block
              apply WPA.seq
              apply WPA.draw mixed
              · apply Trace.pu [] (.fieldAddr fl25_1 (.plain rfl) rfl)
                first | apply Trace.pu [_] (.loadLoc1D ty23 (.plain rfl) rfl rfl) | apply Trace.pu [_] (.loadLoc1 ty23 (.plain rfl) rfl rfl) | apply Trace.pu [] (.loadRp1 ty23 (.plain rfl) rfl) | apply Trace.pu [_] (.loadCol1 ty23 (.plain rfl) rfl rfl rfl (fun _ => by omega))
                apply Trace.pu [] (.move (.plain rfl))
                apply Trace.pu [] (.move (.plain rfl))
                first | apply Trace.pu [] (.indexRows el22 (.plain rfl) (.plain rfl) (fun _ => ⟨by omega, by omega⟩)) | apply Trace.pu [] (.indexOwn el22 (.plain rfl) (.plain rfl) (fun _ => ⟨by omega, by omega⟩)) | apply Trace.pu [] (.indexSl el22 (.plain rfl) (.plain rfl) (fun _ => ⟨by omega, by omega⟩))
                first | apply Trace.pu [_] (.loadLoc1D ty3 (.plain rfl) rfl rfl) | apply Trace.pu [_] (.loadLoc1 ty3 (.plain rfl) rfl rfl) | apply Trace.pu [] (.loadRp1 ty3 (.plain rfl) rfl) | apply Trace.pu [_] (.loadCol1 ty3 (.plain rfl) rfl rfl rfl (fun _ => by omega))
                apply Trace.pu [] ((Pure.indexRows el23 (.plain rfl) (.plain rfl) (fun _ => ⟨by omega, by omega⟩)).to (y := .rp e3.ds) (by show AV.rp (g.es.getD (way.getD j 0).toNat default).ds = _; rw [hzz, he3]))
                apply Trace.pu [] (.fieldAddr fl40_0 (.plain rfl) rfl)
                first | apply Trace.pu [_] (.loadLoc1D ty3 (.plain rfl) rfl rfl) | apply Trace.pu [_] (.loadLoc1 ty3 (.plain rfl) rfl rfl) | apply Trace.pu [] (.loadRp1 ty3 (.plain rfl) rfl) | apply Trace.pu [_] (.loadCol1 ty3 (.plain rfl) rfl rfl rfl (fun _ => by omega))
                apply Trace.pu [] (.move (.plain rfl))
                apply Trace.pu [] (.cmp (.plain rfl) (.plain rfl) rfl)
                exact .nil _
              · rfl
              · exact keepOK_of hk hn rfl
              refine WPA.cond rfl (fun hc8 => ?_) (fun hc8 => ?_)
              · apply WPA.seq
                refine WPA.ghost (Ghost.freezeAs (t := 8) (l := 90) (g := fun k => [Col.at (.ints .i64 way) k]) rfl rfl (fun k hk => rfl)) ?_
                have hlong := cycleP_long hok hFp (way.drop j)
                apply WPA.draw mixed
                · first | apply Trace.pu [_] (.loadAllD ty25 (.plain rfl) rfl (by simp)) | apply Trace.pu [_] (.loadLocD ty25 (.plain rfl) rfl (fun _ => by simp)) | apply Trace.pu [_] (.loadLoc ty25 (.plain rfl) rfl (fun _ => Nat.le_of_ble_eq_true rfl)) | apply Trace.pu [] (.loadRp ty25 (.plain rfl) (fun _ => by decide)) | apply Trace.pu [] (.loadRp ty25 (.plain rfl) (fun _ => Nat.le_of_ble_eq_true rfl)) | apply Trace.pu [_] (.loadCol ty25 (.plain rfl) rfl rfl (fun _ => by decide) (fun _ => by omega)) | apply Trace.pu [_] (.loadArr ty25 (.plain rfl) rfl)
                  apply Trace.pu [] (.move (.plain rfl))
                  apply Trace.pu [] (.move (.plain rfl))
                  apply Trace.pu [] ((Pure.cutRows so22 (.plain rfl) (.to _ (.plain rfl) (fun _ => by omega)) (.no _) (fun _ => ⟨by omega, by omega⟩)).to (y := .d (intsD (way.drop j))) (congrArg AV.d drop_rows))
                  apply Trace.ct (callArgs0 (.cons (.plain rfl) (.cons (.plain rfl) .nil))) (cyN hok (by rw [List.length_drop]; omega) (a := (g.cycleP (way.drop j)).1) (b := (g.cycleP (way.drop j)).2) rfl) en19
                  apply Trace.pu [] (.move (.plain rfl))
                  apply Trace.pu [] (.extract (.plain rfl) rfl)
                  apply Trace.pu [] (.extract (.plain rfl) rfl)
                  apply Trace.pu [] (.assign (.plain rfl))
                  apply Trace.pu [] (.assign (.plain rfl))
                  exact .nil _
                · rfl
                · exact keepOK_of hk hn rfl
                apply WPA.seq
                apply WPA.region
                · apply Trace.pu [] (.move (.plain rfl))
                  apply Trace.pu [] (.not (.plain rfl))
                  apply Trace.pu [] (.assign (.plain rfl))
                  exact .nil _
                · exact keepOK_of hk hn rfl
                apply WPA.ret
                refine ⟨.inr rfl, ⟨_, (.cons (.tmp rfl) .nil), ?_⟩, by simp [St.get]⟩
                exact congrArg bv (by rw [hlong]; rfl)
              · have hef : ¬ e3.f = (a : Int) := of_decide_eq_false hc8
                apply WPA.skip
                apply WPA.region
                · apply Trace.pu [] (.move (.plain rfl))
                  apply Trace.pu [] (.arith (.plain rfl) (.plain rfl) rfl (fun _ => bd64 (by omega)))
                  apply Trace.pu [] (.assign (.plain rfl))
                  exact .nil _
                · exact keepOK_of hk hn rfl
                exact ⟨j + 1, ⟨by omega, fun p hp => by
                  by_cases hpj : p = j
                  · rw [hpj, hze]; exact hef
                  · exact hj.2 p (by omega)⟩, by omega, St.le_cons rfl (St.le_cons rfl (St.le_cons rfl (St.le_cons rfl (St.le_cons rfl (St.le_cons rfl (St.le_cons rfl (St.le_cons rfl (St.le_cons (slI (by omega)) (St.le_nil _)))))))))⟩
            · have hjl : j = way.length := by
                have : ¬ ((j : Int) < way.length) := by simpa using hc7
                omega
              subst hjl
              obtain ⟨e, he⟩ : ∃ e, g.es.getD k default = e := ⟨_, rfl⟩
              have hem := Gr.edge hok hkm
              rw [he] at hem hkf
              have hpush := hway.push hkm fun p hp => by
                have h1 := hj.2 p hp
                have h2 := (Gr.edge hok (hway.rg _ (show way.getD p 0 ∈ way by rw [getD_lt _ _ hp]; exact List.getElem_mem _)).2).2.2.2.1
                have h3 : (g.eAt (k : Int)).f = (a : Int) := by show (g.es.getD k default).f = _; rw [he]; exact hkf
                have h2 : 0 ≤ (g.eAt (way.getD p 0)).f := h2
                rw [h3]; omega
              refine WPA.weaken (T := [(sl 2, .av (.d (rowsD 1 ts.length [.ints .u8 ts]))), (sl 3, .av (.loc 3 0)), (sl 7, .av (iv .i64 ((a : Nat)))), (sl 8, .av (.own 90 (way).length)), (sl 9, .av (iv .i64 (i))), (bk 3, .blk (.data g.ds)), (bk 90, .blk (.app 1 (way).length [.ints .i64 (way)])), (sl 12, .av (iv .i64 ((k : Nat))))]) ?_ (St.le_cons rfl (St.le_cons rfl (St.le_cons rfl (St.le_cons rfl (St.le_cons rfl (St.le_cons rfl (St.le_cons rfl (St.le_cons rfl (St.le_nil _)))))))))
              apply WPA.exit
              apply WPA.seq
              apply WPA.region
              · apply Trace.pu [] (.move (.plain rfl))
                apply Trace.pu [] (.move (.plain rfl))
                apply Trace.buildSlice 118 [] so22 zo3 rfl (by decide) (by decide) (.cons (.plain rfl) rfl rfl (Nat.le_of_ble_eq_true rfl) (.nil _ _)) rfl rfl rfl
                apply Trace.append 119 [bk 90, bk 118, sl 116, sl 118, sl 8] ap22 kd22 (by decide) (.own (.plain rfl) rfl) (.own (.plain rfl) rfl) (Col.ones rfl) (labs_ok rfl) (by omega) (by omega) rfl rfl
                apply Trace.pu [] (.assign (.plain rfl))
                exact .nil _
              · exact keepOK_of hk hn rfl
              apply WPA.seq
              refine WPA.ghost (Ghost.swap 90 119 (by rw [hk]; decide) (by rw [hk]; decide) rfl) ?_
              apply WPA.region
              · apply Trace.pu [] (.fieldAddr fl25_1 (.plain rfl) rfl)
                first | apply Trace.pu [_] (.loadLoc1D ty23 (.plain rfl) rfl rfl) | apply Trace.pu [_] (.loadLoc1 ty23 (.plain rfl) rfl rfl) | apply Trace.pu [] (.loadRp1 ty23 (.plain rfl) rfl) | apply Trace.pu [_] (.loadCol1 ty23 (.plain rfl) rfl rfl rfl (fun _ => by omega))
                apply Trace.pu [] (.move (.plain rfl))
                apply Trace.pu [] ((Pure.indexRows el23 (.plain rfl) (.plain rfl) (fun _ => ⟨by omega, by omega⟩)).to (y := .rp e.ds) (by show AV.rp (g.es.getD k default).ds = _; rw [he]))
                apply Trace.pu [] (.fieldAddr fl40_1 (.plain rfl) rfl)
                apply Trace.pu [] ((Pure.loadRp1 ty3 (.plain rfl) rfl).to (y := iv .i64 (e.t.toNat : Nat)) (congrArg (iv .i64) (by omega)))
                apply Trace.pu [] (.assign (.plain rfl))
                exact .nil _
              · exact keepOK_of hk hn rfl
              apply WPA.seq
              apply WPA.region
              · apply Trace.pu [] (.move (.plain rfl))
                apply Trace.pu [] (.cmp (.plain rfl) (.plain rfl) rfl)
                apply Trace.pu [] (.move (.plain rfl))
                apply Trace.pg [] rfl (.move (.plain rfl))
                apply Trace.pg [] rfl (.fieldAddr fl25_0 (.plain rfl) rfl)
                first | apply Trace.pg [_] rfl (.loadLoc1D ty22 (.gd rfl (fun h => h)) rfl rfl) | apply Trace.pg [_] rfl (.loadLoc1 ty22 (.gd rfl (fun h => h)) rfl rfl) | apply Trace.pg [] rfl (.loadRp1 ty22 (.gd rfl (fun h => h)) rfl) | apply Trace.pg [_] rfl (.loadCol1 ty22 (.gd rfl (fun h => h)) rfl rfl rfl (fun _ => by omega))
                apply Trace.pg [] rfl (.len rfl Try.underlying22 (.gd rfl (fun h => h)) rfl)
                apply Trace.pg [] rfl (.cmp (.gd rfl (fun h => h)) (.gd rfl (fun h => h)) rfl)
                apply Trace.pu [] (.pick (.plain rfl) (.plain rfl) (.gd rfl (by simp)))
                exact .nil _
              · exact keepOK_of hk hn rfl
              refine WPA.cond rfl (fun hc9 => ?_) (fun hc9 => ?_)
              · exfalso
                have h9 : (bif decide (((e.t.toNat : Nat) : Int) < 0) then true else decide ((g.lat.length : Int) ≤ ((e.t.toNat : Nat) : Int))) = true := hc9
                rw [bif_or, Bool.or_eq_true, decide_eq_true_eq, decide_eq_true_eq] at h9
                omega
              · apply WPA.skip
                apply WPA.region
                · apply Trace.pu [] (.move (.plain rfl))
                  apply Trace.pu [] (.arith (.plain rfl) (.plain rfl) rfl (fun _ => bd64 (by omega)))
                  apply Trace.pu [] (.assign (.plain rfl))
                  exact .nil _
                · exact keepOK_of hk hn rfl
                exact ⟨(i + 1, e.t.toNat, way ++ [(k : Int)]), ⟨by omega, hem.2.2.1, hpush⟩, by show ts.length - (i + 1) < ts.length - i; omega, St.le_cons rfl (St.le_cons rfl (St.le_cons rfl (St.le_cons (by rw [List.length_append]; rfl) (St.le_cons (slI (by omega)) (St.le_cons rfl (St.le_cons (by rw [List.length_append]; rfl) (St.le_nil _)))))))⟩
      · apply WPA.exit
        apply WPA.seq
        apply WPA.region
        · apply Trace.pu [] (.assign (.plain rfl))
          exact .nil _
        · exact keepOK_of hk hn rfl
        apply WPA.ret
        refine ⟨.inr rfl, ⟨_, (.cons (.tmp rfl) .nil), ?_⟩, by simp [St.get]⟩
        rfl

end Go.Proofs.Ytcnikeonaklkoaa

