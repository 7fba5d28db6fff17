import Derived.Test.YtcidkahhfdcddaaPkA
import Derived.Test.YtcidkahhfdcddaaPkG
import Derived.Test.YtcidkahhfdcddaaNil
/- The reference's graph Check; slack. -/
namespace Go.Proofs.Ytcidkahhfdcddaa
open Go
set_option linter.unusedVariables false
set_option linter.unusedSimpArgs false
set_option maxRecDepth 10000

abbrev Gr.slE (g : Gr) (at_ : List Int) (e : Edg) : Int := at_.getD e.t.toNat 0 + e.d - at_.getD e.f.toNat 0 - g.lat.getD e.f.toNat 0
theorem Gr.edge_mem {g : Gr} (h : g.OK) {e : Edg} (he : e ∈ g.es) : 0 ≤ e.f ∧ e.f.toNat < g.lat.length ∧ 0 ≤ e.t ∧ e.t.toNat < g.lat.length ∧ 0 ≤ e.w ∧ e.w ≤ 64 ∧ 0 ≤ e.d ∧ e.d ≤ 1048576 ∧ 0 ≤ g.lat.getD e.f.toNat 0 ∧ g.lat.getD e.f.toNat 0 ≤ 4096 := by
  have h1 := h.es e he
  have h2 := g.lat_at h e.f.toNat
  omega
/-- soundpost/soundpostref21.Check -/
theorem spec13 (g : Gr) (hz : g.Sz) : FnSpec Try.prog 13 [g.av] [] (iv .i64 g.check) [] [] := by
  refine fnSpec_of (rs := [.tmp 2]) Try.func13 rfl rfl (Nat.le_of_ble_eq_true rfl) (by simp [St.get]) fun E hk hn => ?_
  apply WPA.seq
  apply WPA.region
  · first | apply Trace.boxD 1 [] (.plain rfl) rfl rfl | apply Trace.box 1 [] (.plain rfl) rfl rfl rfl
    apply Trace.pu [] (.assign (.plain rfl))
    exact .nil _
  · exact keepOK_of hk hn rfl
  apply WPA.seq
  apply WPA.region
  · first | apply Trace.pu [_] (.loadAllD ty25 (.plain rfl) rfl (by simp)) | apply Trace.pu [_] (.loadLocD ty25 (.plain rfl) rfl (fun _ => by simp)) | apply Trace.pu [_] (.loadLoc ty25 (.plain rfl) rfl (fun _ => Nat.le_of_ble_eq_true rfl)) | apply Trace.pu [] (.loadRp ty25 (.plain rfl) (fun _ => by decide)) | apply Trace.pu [] (.loadRp ty25 (.plain rfl) (fun _ => Nat.le_of_ble_eq_true rfl)) | apply Trace.pu [_] (.loadCol ty25 (.plain rfl) rfl rfl (fun _ => by decide) (fun _ => by omega)) | apply Trace.pu [_] (.loadArr ty25 (.plain rfl) rfl)
    apply Trace.cu (callArgs0 (.cons (.plain rfl) .nil)) (spec29 g hz) en29
    apply Trace.pu [] (.assign (.plain rfl))
    exact .nil _
  · exact keepOK_of hk hn rfl
  apply WPA.seq
  apply WPA.seq
  apply WPA.region
  · apply Trace.pu [] (.move (.plain rfl))
    apply Trace.pu [] (.cmp (.plain rfl) (.plain rfl) rfl)
    exact .nil _
  · exact keepOK_of hk hn rfl
  refine WPA.cond rfl (fun hc1 => ?_) (fun hc1 => ?_)
  · apply WPA.seq
    apply WPA.region
    · apply Trace.pu [] (.move (.plain rfl))
      apply Trace.pu [] (.assign (.plain rfl))
      exact .nil _
    · exact keepOK_of hk hn rfl
    apply WPA.ret
    refine ⟨.inr rfl, ⟨_, (.cons (.tmp rfl) .nil), ?_⟩, by simp [St.get]⟩
    have hF : g.formed ≠ 0 := by simpa using hc1
    unfold Gr.check
    rw [if_neg (by simp [Gr.looped, hF])]
    rfl
  · have hF : g.formed = 0 := by simpa using hc1
    have hok := g.ok_of hF
    apply WPA.skip
    apply WPA.seq
    apply WPA.seq
    apply WPA.region
    · first | apply Trace.pu [_] (.loadAllD ty25 (.plain rfl) rfl (by simp)) | apply Trace.pu [_] (.loadLocD ty25 (.plain rfl) rfl (fun _ => by simp)) | apply Trace.pu [_] (.loadLoc ty25 (.plain rfl) rfl (fun _ => Nat.le_of_ble_eq_true rfl)) | apply Trace.pu [] (.loadRp ty25 (.plain rfl) (fun _ => by decide)) | apply Trace.pu [] (.loadRp ty25 (.plain rfl) (fun _ => Nat.le_of_ble_eq_true rfl)) | apply Trace.pu [_] (.loadCol ty25 (.plain rfl) rfl rfl (fun _ => by decide) (fun _ => by omega)) | apply Trace.pu [_] (.loadArr ty25 (.plain rfl) rfl)
      apply Trace.cu (callArgs0 (.cons (.plain rfl) .nil)) (spec30 g hok) en30
      exact .nil _
    · exact keepOK_of hk hn rfl
    refine WPA.cond rfl (fun hc2 => ?_) (fun hc2 => ?_)
    · apply WPA.seq
      apply WPA.region
      · apply Trace.pu [] (.assign (.plain rfl))
        exact .nil _
      · exact keepOK_of hk hn rfl
      apply WPA.ret
      refine ⟨.inr rfl, ⟨_, (.cons (.tmp rfl) .nil), ?_⟩, by simp [St.get]⟩
      unfold Gr.check
      rw [if_pos (by simp [Gr.looped, hF, hc2])]
      rfl
    · apply WPA.skip
      apply WPA.seq
      apply WPA.region
      · apply Trace.pu [] (.assign (.plain rfl))
        exact .nil _
      · exact keepOK_of hk hn rfl
      apply WPA.ret
      refine ⟨.inr rfl, ⟨_, (.cons (.tmp rfl) .nil), ?_⟩, by simp [St.get]⟩
      unfold Gr.check
      rw [if_neg (by simp [Gr.looped, hc2]), hF]
      rfl

/-- (soundpost/plan.positions).slack -/
theorem slackD {g : Gr} (hok : g.OK) {at_ : List Int} {n : Nat} (hl : at_.length = n) (hn : g.lat.length = n) (hb : ∀ v, -1152921504606846976 ≤ at_.getD v 0 ∧ at_.getD v 0 ≤ 1152921504606846976) {e : Edg} (he : e ∈ g.es) : FnSpec Try.prog 47 [.d (rowsD 1 n [.ints .i64 at_]), g.av, .d (.agg e.ds)] [] (iv .i64 (g.slE at_ e)) [] [] := by
  obtain ⟨h1, h2, h3, h4, _, _, h5, h6, h7, h8⟩ := Gr.edge_mem hok he
  have hb1 := hb e.t.toNat
  have hb2 := hb e.f.toNat
  refine fnSpec_of (rs := [.tmp 6]) Try.func47 rfl rfl (Nat.le_of_ble_eq_true rfl) (by simp [St.get]) fun E hk hn => ?_
  apply WPA.seq
  apply WPA.region
  · first | apply Trace.boxD 4 [] (.plain rfl) rfl rfl | apply Trace.box 4 [] (.plain rfl) rfl rfl rfl
    first | apply Trace.boxD 5 [] (.plain rfl) rfl rfl | apply Trace.box 5 [] (.plain rfl) rfl rfl rfl
    apply Trace.pu [] (.assign (.plain rfl))
    exact .nil _
  · exact keepOK_of hk hn rfl
  apply WPA.seq
  apply WPA.draw mixed
  · apply Trace.pu [] (.move (.plain rfl))
    apply Trace.pu [] (.fieldAddr fl34_1 (.plain rfl) rfl)
    first | apply Trace.pu [_] (.loadLoc1D ty3 (.plain rfl) rfl rfl) | apply Trace.pu [_] (.loadLoc1 ty3 (.plain rfl) rfl rfl) | apply Trace.pu [] (.loadRp1 ty3 (.plain rfl) rfl) | apply Trace.pu [_] (.loadCol1 ty3 (.plain rfl) rfl rfl rfl (fun _ => by omega))
    first | apply Trace.pu [] (.indexRows el50 (.plain rfl) (.plain rfl) (fun _ => ⟨by omega, by omega⟩)) | apply Trace.pu [] (.indexOwn el50 (.plain rfl) (.plain rfl) (fun _ => ⟨by omega, by omega⟩)) | apply Trace.pu [] (.indexSl el50 (.plain rfl) (.plain rfl) (fun _ => ⟨by omega, by omega⟩))
    first | apply Trace.pu [_] (.loadLoc1D ty3 (.plain rfl) rfl rfl) | apply Trace.pu [_] (.loadLoc1 ty3 (.plain rfl) rfl rfl) | apply Trace.pu [] (.loadRp1 ty3 (.plain rfl) rfl) | apply Trace.pu [_] (.loadCol1 ty3 (.plain rfl) rfl rfl rfl (fun _ => by omega))
    apply Trace.pu [] (.fieldAddr fl34_3 (.plain rfl) rfl)
    first | apply Trace.pu [_] (.loadLoc1D ty3 (.plain rfl) rfl rfl) | apply Trace.pu [_] (.loadLoc1 ty3 (.plain rfl) rfl rfl) | apply Trace.pu [] (.loadRp1 ty3 (.plain rfl) rfl) | apply Trace.pu [_] (.loadCol1 ty3 (.plain rfl) rfl rfl rfl (fun _ => by omega))
    apply Trace.pu [] (.arith (.plain rfl) (.plain rfl) rfl (fun _ => bd64 (by omega)))
    apply Trace.pu [] (.move (.plain rfl))
    apply Trace.pu [] (.fieldAddr fl34_0 (.plain rfl) rfl)
    first | apply Trace.pu [_] (.loadLoc1D ty3 (.plain rfl) rfl rfl) | apply Trace.pu [_] (.loadLoc1 ty3 (.plain rfl) rfl rfl) | apply Trace.pu [] (.loadRp1 ty3 (.plain rfl) rfl) | apply Trace.pu [_] (.loadCol1 ty3 (.plain rfl) rfl rfl rfl (fun _ => by omega))
    first | apply Trace.pu [] (.indexRows el50 (.plain rfl) (.plain rfl) (fun _ => ⟨by omega, by omega⟩)) | apply Trace.pu [] (.indexOwn el50 (.plain rfl) (.plain rfl) (fun _ => ⟨by omega, by omega⟩)) | apply Trace.pu [] (.indexSl el50 (.plain rfl) (.plain rfl) (fun _ => ⟨by omega, by omega⟩))
    first | apply Trace.pu [_] (.loadLoc1D ty3 (.plain rfl) rfl rfl) | apply Trace.pu [_] (.loadLoc1 ty3 (.plain rfl) rfl rfl) | apply Trace.pu [] (.loadRp1 ty3 (.plain rfl) rfl) | apply Trace.pu [_] (.loadCol1 ty3 (.plain rfl) rfl rfl rfl (fun _ => by omega))
    apply Trace.pu [] (.arith (.plain rfl) (.plain rfl) rfl (fun _ => bd64 (by omega)))
    apply Trace.pu [] (.fieldAddr fl25_0 (.plain rfl) rfl)
    first | apply Trace.pu [_] (.loadLoc1D ty22 (.plain rfl) rfl rfl) | apply Trace.pu [_] (.loadLoc1 ty22 (.plain rfl) rfl rfl) | apply Trace.pu [] (.loadRp1 ty22 (.plain rfl) rfl) | apply Trace.pu [_] (.loadCol1 ty22 (.plain rfl) rfl rfl rfl (fun _ => by omega))
    apply Trace.pu [] (.fieldAddr fl34_0 (.plain rfl) rfl)
    first | apply Trace.pu [_] (.loadLoc1D ty3 (.plain rfl) rfl rfl) | apply Trace.pu [_] (.loadLoc1 ty3 (.plain rfl) rfl rfl) | apply Trace.pu [] (.loadRp1 ty3 (.plain rfl) rfl) | apply Trace.pu [_] (.loadCol1 ty3 (.plain rfl) rfl rfl rfl (fun _ => by omega))
    first | apply Trace.pu [] (.indexRows el22 (.plain rfl) (.plain rfl) (fun _ => ⟨by omega, by omega⟩)) | apply Trace.pu [] (.indexOwn el22 (.plain rfl) (.plain rfl) (fun _ => ⟨by omega, by omega⟩)) | apply Trace.pu [] (.indexSl el22 (.plain rfl) (.plain rfl) (fun _ => ⟨by omega, by omega⟩))
    first | apply Trace.pu [_] (.loadLoc1D ty3 (.plain rfl) rfl rfl) | apply Trace.pu [_] (.loadLoc1 ty3 (.plain rfl) rfl rfl) | apply Trace.pu [] (.loadRp1 ty3 (.plain rfl) rfl) | apply Trace.pu [_] (.loadCol1 ty3 (.plain rfl) rfl rfl rfl (fun _ => by omega))
    apply Trace.pu [] (.arith (.plain rfl) (.plain rfl) rfl (fun _ => bd64 (by omega)))
    apply Trace.pu [] (.assign (.plain rfl))
    exact .nil _
  · rfl
  · exact keepOK_of hk hn rfl
  apply WPA.ret
  refine ⟨.inr rfl, ⟨_, (.cons (.tmp rfl) .nil), ?_⟩, by simp [St.get]⟩
  rfl

/-- soundpost/soundpostref23.slack -/
theorem rslackD {g : Gr} (hok : g.OK) {at_ : List Int} {n : Nat} (hl : at_.length = n) (hn : g.lat.length = n) (hb : ∀ v, -1152921504606846976 ≤ at_.getD v 0 ∧ at_.getD v 0 ≤ 1152921504606846976) {e : Edg} (he : e ∈ g.es) : FnSpec Try.prog 67 [g.av, .d (.agg e.ds), .d (rowsD 1 n [.ints .i64 at_])] [] (iv .i64 (g.slE at_ e)) [] [] := by
  obtain ⟨h1, h2, h3, h4, _, _, h5, h6, h7, h8⟩ := Gr.edge_mem hok he
  have hb1 := hb e.t.toNat
  have hb2 := hb e.f.toNat
  refine fnSpec_of (rs := [.tmp 6]) Try.func67 rfl rfl (Nat.le_of_ble_eq_true rfl) (by simp [St.get]) fun E hk hn => ?_
  apply WPA.seq
  apply WPA.region
  · first | apply Trace.boxD 3 [] (.plain rfl) rfl rfl | apply Trace.box 3 [] (.plain rfl) rfl rfl rfl
    first | apply Trace.boxD 4 [] (.plain rfl) rfl rfl | apply Trace.box 4 [] (.plain rfl) rfl rfl rfl
    apply Trace.pu [] (.assign (.plain rfl))
    exact .nil _
  · exact keepOK_of hk hn rfl
  apply WPA.seq
  apply WPA.draw mixed
  · apply Trace.pu [] (.move (.plain rfl))
    apply Trace.pu [] (.fieldAddr fl34_1 (.plain rfl) rfl)
    first | apply Trace.pu [_] (.loadLoc1D ty3 (.plain rfl) rfl rfl) | apply Trace.pu [_] (.loadLoc1 ty3 (.plain rfl) rfl rfl) | apply Trace.pu [] (.loadRp1 ty3 (.plain rfl) rfl) | apply Trace.pu [_] (.loadCol1 ty3 (.plain rfl) rfl rfl rfl (fun _ => by omega))
    first | apply Trace.pu [] (.indexRows el22 (.plain rfl) (.plain rfl) (fun _ => ⟨by omega, by omega⟩)) | apply Trace.pu [] (.indexOwn el22 (.plain rfl) (.plain rfl) (fun _ => ⟨by omega, by omega⟩)) | apply Trace.pu [] (.indexSl el22 (.plain rfl) (.plain rfl) (fun _ => ⟨by omega, by omega⟩))
    first | apply Trace.pu [_] (.loadLoc1D ty3 (.plain rfl) rfl rfl) | apply Trace.pu [_] (.loadLoc1 ty3 (.plain rfl) rfl rfl) | apply Trace.pu [] (.loadRp1 ty3 (.plain rfl) rfl) | apply Trace.pu [_] (.loadCol1 ty3 (.plain rfl) rfl rfl rfl (fun _ => by omega))
    apply Trace.pu [] (.fieldAddr fl34_3 (.plain rfl) rfl)
    first | apply Trace.pu [_] (.loadLoc1D ty3 (.plain rfl) rfl rfl) | apply Trace.pu [_] (.loadLoc1 ty3 (.plain rfl) rfl rfl) | apply Trace.pu [] (.loadRp1 ty3 (.plain rfl) rfl) | apply Trace.pu [_] (.loadCol1 ty3 (.plain rfl) rfl rfl rfl (fun _ => by omega))
    apply Trace.pu [] (.arith (.plain rfl) (.plain rfl) rfl (fun _ => bd64 (by omega)))
    apply Trace.pu [] (.move (.plain rfl))
    apply Trace.pu [] (.fieldAddr fl34_0 (.plain rfl) rfl)
    first | apply Trace.pu [_] (.loadLoc1D ty3 (.plain rfl) rfl rfl) | apply Trace.pu [_] (.loadLoc1 ty3 (.plain rfl) rfl rfl) | apply Trace.pu [] (.loadRp1 ty3 (.plain rfl) rfl) | apply Trace.pu [_] (.loadCol1 ty3 (.plain rfl) rfl rfl rfl (fun _ => by omega))
    first | apply Trace.pu [] (.indexRows el22 (.plain rfl) (.plain rfl) (fun _ => ⟨by omega, by omega⟩)) | apply Trace.pu [] (.indexOwn el22 (.plain rfl) (.plain rfl) (fun _ => ⟨by omega, by omega⟩)) | apply Trace.pu [] (.indexSl el22 (.plain rfl) (.plain rfl) (fun _ => ⟨by omega, by omega⟩))
    first | apply Trace.pu [_] (.loadLoc1D ty3 (.plain rfl) rfl rfl) | apply Trace.pu [_] (.loadLoc1 ty3 (.plain rfl) rfl rfl) | apply Trace.pu [] (.loadRp1 ty3 (.plain rfl) rfl) | apply Trace.pu [_] (.loadCol1 ty3 (.plain rfl) rfl rfl rfl (fun _ => by omega))
    apply Trace.pu [] (.arith (.plain rfl) (.plain rfl) rfl (fun _ => bd64 (by omega)))
    apply Trace.pu [] (.fieldAddr fl25_0 (.plain rfl) rfl)
    first | apply Trace.pu [_] (.loadLoc1D ty22 (.plain rfl) rfl rfl) | apply Trace.pu [_] (.loadLoc1 ty22 (.plain rfl) rfl rfl) | apply Trace.pu [] (.loadRp1 ty22 (.plain rfl) rfl) | apply Trace.pu [_] (.loadCol1 ty22 (.plain rfl) rfl rfl rfl (fun _ => by omega))
    apply Trace.pu [] (.fieldAddr fl34_0 (.plain rfl) rfl)
    first | apply Trace.pu [_] (.loadLoc1D ty3 (.plain rfl) rfl rfl) | apply Trace.pu [_] (.loadLoc1 ty3 (.plain rfl) rfl rfl) | apply Trace.pu [] (.loadRp1 ty3 (.plain rfl) rfl) | apply Trace.pu [_] (.loadCol1 ty3 (.plain rfl) rfl rfl rfl (fun _ => by omega))
    first | apply Trace.pu [] (.indexRows el22 (.plain rfl) (.plain rfl) (fun _ => ⟨by omega, by omega⟩)) | apply Trace.pu [] (.indexOwn el22 (.plain rfl) (.plain rfl) (fun _ => ⟨by omega, by omega⟩)) | apply Trace.pu [] (.indexSl el22 (.plain rfl) (.plain rfl) (fun _ => ⟨by omega, by omega⟩))
    first | apply Trace.pu [_] (.loadLoc1D ty3 (.plain rfl) rfl rfl) | apply Trace.pu [_] (.loadLoc1 ty3 (.plain rfl) rfl rfl) | apply Trace.pu [] (.loadRp1 ty3 (.plain rfl) rfl) | apply Trace.pu [_] (.loadCol1 ty3 (.plain rfl) rfl rfl rfl (fun _ => by omega))
    apply Trace.pu [] (.arith (.plain rfl) (.plain rfl) rfl (fun _ => bd64 (by omega)))
    apply Trace.pu [] (.assign (.plain rfl))
    exact .nil _
  · rfl
  · exact keepOK_of hk hn rfl
  apply WPA.ret
  refine ⟨.inr rfl, ⟨_, (.cons (.tmp rfl) .nil), ?_⟩, by simp [St.get]⟩
  rfl

/-- soundpost/soundpostref23.slack -/
theorem rslackO {g : Gr} (hok : g.OK) {at_ : List Int} {n : Nat} (hl : at_.length = n) (hn : g.lat.length = n) (hb : ∀ v, -1152921504606846976 ≤ at_.getD v 0 ∧ at_.getD v 0 ≤ 1152921504606846976) {e : Edg} (he : e ∈ g.es) : FnSpec Try.prog 67 [g.av, .d (.agg e.ds), .own 0 n] [(bk 0, .blk (.app 1 n [.ints .i64 at_]))] (iv .i64 (g.slE at_ e)) [(bk 0, .blk (.app 1 n [.ints .i64 at_]))] [0] := by
  obtain ⟨h1, h2, h3, h4, _, _, h5, h6, h7, h8⟩ := Gr.edge_mem hok he
  have hb1 := hb e.t.toNat
  have hb2 := hb e.f.toNat
  refine fnSpec_of (rs := [.tmp 6]) Try.func67 rfl rfl (Nat.le_of_ble_eq_true rfl) (odd_of rfl) fun E hk hn => ?_
  apply WPA.seq
  apply WPA.region
  · first | apply Trace.boxD 3 [] (.plain rfl) rfl rfl | apply Trace.box 3 [] (.plain rfl) rfl rfl rfl
    first | apply Trace.boxD 4 [] (.plain rfl) rfl rfl | apply Trace.box 4 [] (.plain rfl) rfl rfl rfl
    apply Trace.pu [] (.assign (.plain rfl))
    exact .nil _
  · exact keepOK_of hk hn rfl
  apply WPA.seq
  apply WPA.draw mixed
  · apply Trace.pu [] (.move (.plain rfl))
    apply Trace.pu [] (.fieldAddr fl34_1 (.plain rfl) rfl)
    first | apply Trace.pu [_] (.loadLoc1D ty3 (.plain rfl) rfl rfl) | apply Trace.pu [_] (.loadLoc1 ty3 (.plain rfl) rfl rfl) | apply Trace.pu [] (.loadRp1 ty3 (.plain rfl) rfl) | apply Trace.pu [_] (.loadCol1 ty3 (.plain rfl) rfl rfl rfl (fun _ => by omega))
    first | apply Trace.pu [] (.indexRows el22 (.plain rfl) (.plain rfl) (fun _ => ⟨by omega, by omega⟩)) | apply Trace.pu [] (.indexOwn el22 (.plain rfl) (.plain rfl) (fun _ => ⟨by omega, by omega⟩)) | apply Trace.pu [] (.indexSl el22 (.plain rfl) (.plain rfl) (fun _ => ⟨by omega, by omega⟩))
    first | apply Trace.pu [_] (.loadLoc1D ty3 (.plain rfl) rfl rfl) | apply Trace.pu [_] (.loadLoc1 ty3 (.plain rfl) rfl rfl) | apply Trace.pu [] (.loadRp1 ty3 (.plain rfl) rfl) | apply Trace.pu [_] (.loadCol1 ty3 (.plain rfl) rfl rfl rfl (fun _ => by omega))
    apply Trace.pu [] (.fieldAddr fl34_3 (.plain rfl) rfl)
    first | apply Trace.pu [_] (.loadLoc1D ty3 (.plain rfl) rfl rfl) | apply Trace.pu [_] (.loadLoc1 ty3 (.plain rfl) rfl rfl) | apply Trace.pu [] (.loadRp1 ty3 (.plain rfl) rfl) | apply Trace.pu [_] (.loadCol1 ty3 (.plain rfl) rfl rfl rfl (fun _ => by omega))
    apply Trace.pu [] (.arith (.plain rfl) (.plain rfl) rfl (fun _ => bd64 (by omega)))
    apply Trace.pu [] (.move (.plain rfl))
    apply Trace.pu [] (.fieldAddr fl34_0 (.plain rfl) rfl)
    first | apply Trace.pu [_] (.loadLoc1D ty3 (.plain rfl) rfl rfl) | apply Trace.pu [_] (.loadLoc1 ty3 (.plain rfl) rfl rfl) | apply Trace.pu [] (.loadRp1 ty3 (.plain rfl) rfl) | apply Trace.pu [_] (.loadCol1 ty3 (.plain rfl) rfl rfl rfl (fun _ => by omega))
    first | apply Trace.pu [] (.indexRows el22 (.plain rfl) (.plain rfl) (fun _ => ⟨by omega, by omega⟩)) | apply Trace.pu [] (.indexOwn el22 (.plain rfl) (.plain rfl) (fun _ => ⟨by omega, by omega⟩)) | apply Trace.pu [] (.indexSl el22 (.plain rfl) (.plain rfl) (fun _ => ⟨by omega, by omega⟩))
    first | apply Trace.pu [_] (.loadLoc1D ty3 (.plain rfl) rfl rfl) | apply Trace.pu [_] (.loadLoc1 ty3 (.plain rfl) rfl rfl) | apply Trace.pu [] (.loadRp1 ty3 (.plain rfl) rfl) | apply Trace.pu [_] (.loadCol1 ty3 (.plain rfl) rfl rfl rfl (fun _ => by omega))
    apply Trace.pu [] (.arith (.plain rfl) (.plain rfl) rfl (fun _ => bd64 (by omega)))
    apply Trace.pu [] (.fieldAddr fl25_0 (.plain rfl) rfl)
    first | apply Trace.pu [_] (.loadLoc1D ty22 (.plain rfl) rfl rfl) | apply Trace.pu [_] (.loadLoc1 ty22 (.plain rfl) rfl rfl) | apply Trace.pu [] (.loadRp1 ty22 (.plain rfl) rfl) | apply Trace.pu [_] (.loadCol1 ty22 (.plain rfl) rfl rfl rfl (fun _ => by omega))
    apply Trace.pu [] (.fieldAddr fl34_0 (.plain rfl) rfl)
    first | apply Trace.pu [_] (.loadLoc1D ty3 (.plain rfl) rfl rfl) | apply Trace.pu [_] (.loadLoc1 ty3 (.plain rfl) rfl rfl) | apply Trace.pu [] (.loadRp1 ty3 (.plain rfl) rfl) | apply Trace.pu [_] (.loadCol1 ty3 (.plain rfl) rfl rfl rfl (fun _ => by omega))
    first | apply Trace.pu [] (.indexRows el22 (.plain rfl) (.plain rfl) (fun _ => ⟨by omega, by omega⟩)) | apply Trace.pu [] (.indexOwn el22 (.plain rfl) (.plain rfl) (fun _ => ⟨by omega, by omega⟩)) | apply Trace.pu [] (.indexSl el22 (.plain rfl) (.plain rfl) (fun _ => ⟨by omega, by omega⟩))
    first | apply Trace.pu [_] (.loadLoc1D ty3 (.plain rfl) rfl rfl) | apply Trace.pu [_] (.loadLoc1 ty3 (.plain rfl) rfl rfl) | apply Trace.pu [] (.loadRp1 ty3 (.plain rfl) rfl) | apply Trace.pu [_] (.loadCol1 ty3 (.plain rfl) rfl rfl rfl (fun _ => by omega))
    apply Trace.pu [] (.arith (.plain rfl) (.plain rfl) rfl (fun _ => bd64 (by omega)))
    apply Trace.pu [] (.assign (.plain rfl))
    exact .nil _
  · rfl
  · exact keepOK_of hk hn rfl
  apply WPA.ret
  refine ⟨.inr rfl, ⟨_, (.cons (.tmp rfl) .nil), ?_⟩, blks_of (.cons rfl .nil)⟩
  rfl

end Go.Proofs.Ytcidkahhfdcddaa


/- The plan with positions: of the program, of the reference. -/
namespace Go.Proofs.Ytcidkahhfdcddaa
open Go
set_option linter.unusedVariables false
set_option linter.unusedSimpArgs false
set_option maxRecDepth 10000

def Gr.delTo (g : Gr) (at_ : List Int) (i : Nat) : List Int := (List.range i).map (g.sl (fn at_))
def Gr.memTo (g : Gr) (at_ : List Int) (i : Nat) : Int := sm i fun i => g.sl (fn at_) i * (g.ed i).w
theorem delTo_succ (g : Gr) (at_ : List Int) (i : Nat) : g.delTo at_ (i + 1) = g.delTo at_ i ++ [g.sl (fn at_) i] := by simp [Gr.delTo, List.range_succ]
theorem memTo_succ (g : Gr) (at_ : List Int) (i : Nat) : g.memTo at_ (i + 1) = g.memTo at_ i + g.sl (fn at_) i * (g.ed i).w := rfl
/-- A plan, as data. -/
structure Pl where
  at_ : List Int
  del : List Int
  mem : Int
abbrev Pl.ds (p : Pl) : List D := [intsD p.at_, intsD p.del, .v (.int .i64 p.mem)]
abbrev Pl.d (p : Pl) : D := .agg p.ds
def Gr.planOf (g : Gr) (at_ : List Int) : Pl := ⟨at_, g.delTo at_ g.es.length, g.memTo at_ g.es.length⟩
theorem planOf_d (g : Gr) (at_ : List Int) : (g.planOf at_).d = .agg [intsD at_, rowsD 1 g.es.length [.ints .i64 (g.delTo at_ g.es.length)], .v (.int .i64 (g.memTo at_ g.es.length))] := by
  have e : (g.delTo at_ g.es.length).length = g.es.length := by simp [Gr.delTo]
  simp only [Pl.d, Pl.ds, Gr.planOf, intsD, e]
structure AtOK (g : Gr) (at_ : List Int) : Prop where
  len : at_.length = g.lat.length
  bd : ∀ v, 0 ≤ at_.getD v 0 ∧ at_.getD v 0 ≤ 4398046511104
theorem AtOK.wide {g : Gr} {at_ : List Int} (h : AtOK g at_) (v : Nat) : -1152921504606846976 ≤ at_.getD v 0 ∧ at_.getD v 0 ≤ 1152921504606846976 := by have := h.bd v; omega
theorem sl_bd {g : Gr} (hok : g.OK) {at_ : List Int} (h : AtOK g at_) {i : Nat} (hi : i < g.es.length) : -4398046515200 ≤ g.sl (fn at_) i ∧ g.sl (fn at_) i ≤ 4398047559680 ∧ -281475043819520 ≤ g.sl (fn at_) i * (g.ed i).w ∧ g.sl (fn at_) i * (g.ed i).w ≤ 281475043819520 := by
  have he := Gr.edge_mem hok (e := g.ed i) (Gr.edge hok hi).1
  have h1 := h.bd (g.ed i).t.toNat
  have h2 := h.bd (g.ed i).f.toNat
  have hs : g.sl (fn at_) i = at_.getD (g.ed i).t.toNat 0 + (g.ed i).d - at_.getD (g.ed i).f.toNat 0 - g.lat.getD (g.ed i).f.toNat 0 := rfl
  have ha : -4398046515200 ≤ g.sl (fn at_) i ∧ g.sl (fn at_) i ≤ 4398047559680 := by omega
  have hw : 0 ≤ (g.ed i).w ∧ (g.ed i).w ≤ 64 := ⟨he.2.2.2.2.1, he.2.2.2.2.2.1⟩
  generalize g.sl (fn at_) i = x at ha
  generalize (g.ed i).w = y at hw
  have a1 : x * y ≤ 4398047559680 * y := Int.mul_le_mul_of_nonneg_right ha.2 hw.1
  have a2 : -4398046515200 * y ≤ x * y := Int.mul_le_mul_of_nonneg_right ha.1 hw.1
  omega
theorem memTo_bd {g : Gr} (hok : g.OK) {at_ : List Int} (h : AtOK g at_) : ∀ i, i ≤ g.es.length → -4611686018427387904 - 10000000000000000 ≤ g.memTo at_ i ∧ g.memTo at_ i ≤ 4611686018427387904 + 10000000000000000 := by
  have key : ∀ i, i ≤ g.es.length → -((i : Int) * 281475043819520) ≤ g.memTo at_ i ∧ g.memTo at_ i ≤ (i : Int) * 281475043819520 := by
    intro i
    induction i with
    | zero => intro _; exact ⟨by show _ ≤ (0 : Int); omega, by show (0 : Int) ≤ _; omega⟩
    | succ i ih =>
      intro hi
      have a := ih (by omega)
      have b := sl_bd hok h (i := i) (by omega)
      rw [memTo_succ]
      omega
  intro i hi
  have := key i hi
  have := hok.m
  omega
/-- (soundpost/plan.positions).plan -/
theorem spec28 {g : Gr} (hok : g.OK) {at_ : List Int} (hat : AtOK g at_) : FnSpec Try.prog 28 [.d (intsD at_), g.av] [] (.d (g.planOf at_).d) [] [] := by
  have hn2 := hok.m
  have hn1 := hok.n
  refine fnSpec_of (rs := [.cell 4 28]) Try.func28 rfl rfl (Nat.le_of_ble_eq_true rfl) (by simp [St.get]) fun E hk hn => ?_
  apply WPA.seq
  apply WPA.region
  · first | apply Trace.boxD 3 [] (.plain rfl) rfl rfl | apply Trace.box 3 [] (.plain rfl) rfl rfl rfl
    apply Trace.alloc 4 [] (.data _) zo28 (cellsAs_data _) rfl
    exact .nil _
  · exact keepOK_of hk hn rfl
  apply WPA.seq
  apply WPA.region
  · apply Trace.pu [] (.move (.plain rfl))
    apply Trace.pu [] (.build zo28 pl28 (.cons (.plain rfl) rfl rfl (Nat.le_of_ble_eq_true rfl) (.nil _ _)) rfl)
    apply Trace.alloc 5 [] (.data _) zo28 (cellsAs_data _) rfl
    first | apply Trace.storeD ty28 (.plain rfl) (.plain rfl) rfl rfl (by simp [spliceL]) (by simp [AV.oneB, single, intsD, rowsD]) (by simp [spliceL]) (spliceL_all (by simp [spliceL])) | apply Trace.storeD ty28 (.plain rfl) (.plain rfl) rfl rfl (by simp [spliceL]) (by simp [AV.oneB, single, intsD, rowsD]) (by simp [spliceL]) rfl | apply Trace.storeDA ty28 (.plain rfl) (.plain rfl) rfl rfl (by simp [spliceL]) (by simp [AV.oneB, single]) (by simp [spliceL]) rfl | apply Trace.storeLoc ty28 (.plain rfl) (.plain rfl) rfl rfl (by simp [spliceL]) (by simp [AV.oneB, single]) (by simp) rfl | apply Trace.storeRow ty28 (.plain rfl) (.plain rfl) rfl rfl rfl rfl (by decide) (by simp [AV.oneB, single]) rfl (by omega)
    exact .nil _
  · exact keepOK_of hk hn rfl
  apply WPA.seq
  apply WPA.seq
  refine WPA.ghost (Ghost.dataCells (l := 5) rfl rfl) ?_
  refine WPA.ghost (Ghost.cellNil (lb := 5) (j := 1) (l := 90) (cols := [.ints .i64 []]) (n := 1) rfl rfl rfl rfl (by rw [hk]; decide) rfl (by simp [Col.len]) rfl) ?_
  apply WPA.region
  · apply Trace.pu [] (.fieldAddr fl25_1 (.plain rfl) rfl)
    first | apply Trace.pu [_] (.loadLoc1D ty23 (.plain rfl) rfl rfl) | apply Trace.pu [_] (.loadLoc1 ty23 (.plain rfl) rfl rfl) | apply Trace.pu [] (.loadRp1 ty23 (.plain rfl) rfl) | apply Trace.pu [_] (.loadCol1 ty23 (.plain rfl) rfl rfl rfl (fun _ => by omega))
    apply Trace.pu [] (.len rfl Try.underlying23 (.plain rfl) rfl)
    apply Trace.pu [] (.move (.plain rfl))
    exact .nil _
  · exact keepOK_of hk hn rfl
  apply WPA.block
  refine WPA.loop (σ := Nat) (fun i => [(sl 0, .av (.d (intsD at_))), (sl 3, .av (.loc 3 0)), (sl 4, .av (.loc 4 0)), (sl 5, .av (.loc 5 0)), (sl 12, .av (.d (edgesD g.es))), (sl 13, .av (iv .i64 (g.es.length))), (sl 14, .av (iv .i64 (i))), (bk 3, .blk (.data g.ds)), (bk 4, .blk (.data [.v (.slice none 0 0), .v (.slice none 0 0), .v (.int .i64 0)])), (bk 5, .blk (.cells [.d (intsD at_), .own 90 i, iv .i64 (g.memTo at_ i)])), (bk 90, .blk (.app 1 i [.ints .i64 (g.delTo at_ i)]))]) (fun i => i ≤ g.es.length) (fun i => g.es.length - i) 0
    (St.le_cons rfl (St.le_cons rfl (St.le_cons rfl (St.le_cons rfl (St.le_cons rfl (St.le_cons rfl (St.le_cons rfl (St.le_cons rfl (St.le_cons rfl (St.le_cons rfl (St.le_cons rfl (St.le_nil _)))))))))))) (Nat.zero_le _) fun i hi => ?_
  apply WPA.seq
  apply WPA.region
  · apply Trace.pu [] (.cmp (.plain rfl) (.plain rfl) rfl)
    exact .nil _
  · exact keepOK_of hk hn rfl
  apply WPA.seq
  refine WPA.cond rfl (fun hc1 => ?_) (fun hc1 => ?_)
  · have hlt : i < g.es.length := by simpa using hc1
    obtain ⟨e, he⟩ : ∃ e, g.es.getD i default = e := ⟨_, rfl⟩
    have hem : e ∈ g.es := by rw [← he]; exact (Gr.edge hok hlt).1
    have hsl : g.sl (fn at_) i = g.slE at_ e := by rw [← he]; rfl
    have hbd := sl_bd hok hat hlt
    have hmb := memTo_bd hok hat i hi
    have hmb2 := memTo_bd hok hat (i + 1) hlt
    rw [memTo_succ, show g.ed i = e from he] at hmb2
    rw [show g.ed i = e from he] at hbd
    have hms := memTo_succ g at_ i
    rw [show g.ed i = e from he, hsl] at hms
    have hds := delTo_succ g at_ i
    rw [hsl] at hds hbd hmb2
    apply WPA.skip
    apply WPA.seq
    apply WPA.block
    apply WPA.seq
    apply WPA.region
    · apply Trace.pu [] ((Pure.indexRows el23 (.plain rfl) (.plain rfl) (fun _ => ⟨by omega, by omega⟩)).to (y := .rp e.ds) (by show AV.rp (g.es.getD i default).ds = _; rw [he]))
      first | apply Trace.pu [_] (.loadAllD ty34 (.plain rfl) rfl (by simp [spliceL])) | apply Trace.pu [_] (.loadLocD ty34 (.plain rfl) rfl (fun _ => by simp [spliceL])) | apply Trace.pu [_] (.loadLoc ty34 (.plain rfl) rfl (fun _ => Nat.le_of_ble_eq_true rfl)) | apply Trace.pu [] (.loadRp ty34 (.plain rfl) (fun _ => by decide)) | apply Trace.pu [] (.loadRp ty34 (.plain rfl) (fun _ => Nat.le_of_ble_eq_true rfl)) | apply Trace.pu [_] (.loadCol ty34 (.plain rfl) rfl rfl (fun _ => by decide) (fun _ => by omega)) | apply Trace.pu [_] (.loadArr ty34 (.plain rfl) rfl)
      apply Trace.alloc 7 [] (.data _) zo34 (cellsAs_data _) rfl
      first | apply Trace.storeD ty34 (.plain rfl) (.plain rfl) rfl rfl (by simp [spliceL]) (by simp [AV.oneB, single, intsD, rowsD]) (by simp [spliceL]) (spliceL_all (by simp [spliceL])) | apply Trace.storeD ty34 (.plain rfl) (.plain rfl) rfl rfl (by simp [spliceL]) (by simp [AV.oneB, single, intsD, rowsD]) (by simp [spliceL]) rfl | apply Trace.storeDA ty34 (.plain rfl) (.plain rfl) rfl rfl (by simp [spliceL]) (by simp [AV.oneB, single]) (by simp [spliceL]) rfl | apply Trace.storeLoc ty34 (.plain rfl) (.plain rfl) rfl rfl (by simp [spliceL]) (by simp [AV.oneB, single]) (by simp) rfl | apply Trace.storeRow ty34 (.plain rfl) (.plain rfl) rfl rfl rfl rfl (by decide) (by simp [AV.oneB, single]) rfl (by omega)
      exact .nil _
    · exact keepOK_of hk hn rfl
    apply WPA.seq
    apply WPA.region
    · apply Trace.pu [] (.move (.plain rfl))
      first | apply Trace.pu [_] (.loadAllD ty25 (.plain rfl) rfl (by simp [spliceL])) | apply Trace.pu [_] (.loadLocD ty25 (.plain rfl) rfl (fun _ => by simp [spliceL])) | apply Trace.pu [_] (.loadLoc ty25 (.plain rfl) rfl (fun _ => Nat.le_of_ble_eq_true rfl)) | apply Trace.pu [] (.loadRp ty25 (.plain rfl) (fun _ => by decide)) | apply Trace.pu [] (.loadRp ty25 (.plain rfl) (fun _ => Nat.le_of_ble_eq_true rfl)) | apply Trace.pu [_] (.loadCol ty25 (.plain rfl) rfl rfl (fun _ => by decide) (fun _ => by omega)) | apply Trace.pu [_] (.loadArr ty25 (.plain rfl) rfl)
      first | apply Trace.pu [_] (.loadAllD ty34 (.plain rfl) rfl (by simp [spliceL])) | apply Trace.pu [_] (.loadLocD ty34 (.plain rfl) rfl (fun _ => by simp [spliceL])) | apply Trace.pu [_] (.loadLoc ty34 (.plain rfl) rfl (fun _ => Nat.le_of_ble_eq_true rfl)) | apply Trace.pu [] (.loadRp ty34 (.plain rfl) (fun _ => by decide)) | apply Trace.pu [] (.loadRp ty34 (.plain rfl) (fun _ => Nat.le_of_ble_eq_true rfl)) | apply Trace.pu [_] (.loadCol ty34 (.plain rfl) rfl rfl (fun _ => by decide) (fun _ => by omega)) | apply Trace.pu [_] (.loadArr ty34 (.plain rfl) rfl)
      apply Trace.cu (callArgs0 (.cons (.plain rfl) (.cons (.plain rfl) (.cons (.plain rfl) .nil)))) (slackD hok rfl hat.len.symm hat.wide hem) en47
      apply Trace.pu [] (.assign (.plain rfl))
      exact .nil _
    · exact keepOK_of hk hn rfl
    apply WPA.seq
    apply WPA.region
    · apply Trace.pu [] (.fieldAddr fl28_1 (.plain rfl) rfl)
      first | apply Trace.pu [_] (.loadLoc1D ty22 (.plain rfl) rfl rfl) | apply Trace.pu [_] (.loadLoc1 ty22 (.plain rfl) rfl rfl) | apply Trace.pu [] (.loadRp1 ty22 (.plain rfl) rfl) | apply Trace.pu [_] (.loadCol1 ty22 (.plain rfl) rfl rfl rfl (fun _ => by omega))
      apply Trace.pu [] (.move (.plain rfl))
      apply Trace.buildSlice 25 [] so22 zo3 rfl (by decide) (by decide) (.cons (.plain rfl) rfl rfl (Nat.le_of_ble_eq_true rfl) (.nil _ _)) rfl rfl rfl
      apply Trace.append 26 [bk 90, bk 25, sl 23, sl 25] ap22 kd22 (by decide) (.own (.plain rfl) rfl) (.own (.plain rfl) rfl) (Col.ones rfl) (labs_ok rfl) (by omega) (by omega) rfl rfl
      apply Trace.pu [] (.fieldAddr fl28_1 (.plain rfl) rfl)
      first | apply Trace.storeD ty22 (.plain rfl) (.plain rfl) rfl rfl rfl (by simp [AV.oneB, single]) (Nat.le_of_ble_eq_true rfl) rfl | apply Trace.storeDA ty22 (.plain rfl) (.plain rfl) rfl rfl rfl (by simp [AV.oneB, single]) (Nat.le_of_ble_eq_true rfl) rfl | apply Trace.storeLoc ty22 (.plain rfl) (.plain rfl) rfl rfl rfl (by simp [AV.oneB, single]) (Nat.le_of_ble_eq_true rfl) rfl | apply Trace.storeRow ty22 (.plain rfl) (.plain rfl) rfl rfl rfl rfl (by decide) (by simp [AV.oneB, single]) rfl (by omega)
      exact .nil _
    · exact keepOK_of hk hn rfl
    refine WPA.ghost (Ghost.swap 90 26 (by rw [hk]; decide) (by rw [hk]; decide) rfl) ?_
    apply WPA.region
    · apply Trace.pu [] (.fieldAddr fl28_2 (.plain rfl) rfl)
      first | apply Trace.pu [_] (.loadLoc1D ty3 (.plain rfl) rfl rfl) | apply Trace.pu [_] (.loadLoc1 ty3 (.plain rfl) rfl rfl) | apply Trace.pu [] (.loadRp1 ty3 (.plain rfl) rfl) | apply Trace.pu [_] (.loadCol1 ty3 (.plain rfl) rfl rfl rfl (fun _ => by omega))
      apply Trace.pu [] (.move (.plain rfl))
      apply Trace.pu [] (.fieldAddr fl34_2 (.plain rfl) rfl)
      first | apply Trace.pu [_] (.loadLoc1D ty3 (.plain rfl) rfl rfl) | apply Trace.pu [_] (.loadLoc1 ty3 (.plain rfl) rfl rfl) | apply Trace.pu [] (.loadRp1 ty3 (.plain rfl) rfl) | apply Trace.pu [_] (.loadCol1 ty3 (.plain rfl) rfl rfl rfl (fun _ => by omega))
      apply Trace.pu [] (.arith (.plain rfl) (.plain rfl) rfl (fun _ => bd64 (by omega)))
      apply Trace.pu [] (.arith (.plain rfl) (.plain rfl) rfl (fun _ => bd64 (by omega)))
      apply Trace.pu [] (.fieldAddr fl28_2 (.plain rfl) rfl)
      first | apply Trace.storeD ty3 (.plain rfl) (.plain rfl) rfl rfl rfl (by simp [AV.oneB, single]) (Nat.le_of_ble_eq_true rfl) rfl | apply Trace.storeDA ty3 (.plain rfl) (.plain rfl) rfl rfl rfl (by simp [AV.oneB, single]) (Nat.le_of_ble_eq_true rfl) rfl | apply Trace.storeLoc ty3 (.plain rfl) (.plain rfl) rfl rfl rfl (by simp [AV.oneB, single]) (Nat.le_of_ble_eq_true rfl) rfl | apply Trace.storeRow ty3 (.plain rfl) (.plain rfl) rfl rfl rfl rfl (by decide) (by simp [AV.oneB, single]) rfl (by omega)
      exact .nil _
    · exact keepOK_of hk hn rfl
    apply WPA.region
    · apply Trace.pu [] (.arith (.plain rfl) (.plain rfl) rfl (fun _ => bd64 (by omega)))
      apply Trace.pu [] (.move (.plain rfl))
      exact .nil _
    · exact keepOK_of hk hn rfl
    exact ⟨i + 1, by omega, by omega, St.le_cons rfl (St.le_cons rfl (St.le_cons rfl (St.le_cons rfl (St.le_cons rfl (St.le_cons rfl (St.le_cons (slI (by omega)) (St.le_cons rfl (St.le_cons rfl (St.le_cons (congrArg (fun z => some (Cont.blk (.cells [.d (intsD at_), .own 90 (i + 1), iv .i64 z]))) hms.symm) (St.le_cons (app_eq64 hds.symm) (St.le_nil _)))))))))))⟩
  · have him : i = g.es.length := by
      have : ¬ ((i : Int) < g.es.length) := by simpa using hc1
      omega
    subst him
    apply WPA.exit
    apply WPA.seq
    refine WPA.ghost (Ghost.cellFreeze (lb := 5) (j := 1) (l := 90) (g := fun k => [Col.at (.ints .i64 (g.delTo at_ g.es.length)) k]) rfl rfl rfl rfl (fun i hi => rfl) rfl) ?_
    apply WPA.region
    · first | apply Trace.pu [_] (.loadAllD ty28 (.plain rfl) rfl (by simp [spliceL])) | apply Trace.pu [_] (.loadLocD ty28 (.plain rfl) rfl (fun _ => by simp [spliceL])) | apply Trace.pu [_] (.loadLoc ty28 (.plain rfl) rfl (fun _ => Nat.le_of_ble_eq_true rfl)) | apply Trace.pu [] (.loadRp ty28 (.plain rfl) (fun _ => by decide)) | apply Trace.pu [] (.loadRp ty28 (.plain rfl) (fun _ => Nat.le_of_ble_eq_true rfl)) | apply Trace.pu [_] (.loadCol ty28 (.plain rfl) rfl rfl (fun _ => by decide) (fun _ => by omega)) | apply Trace.pu [_] (.loadArr ty28 (.plain rfl) rfl)
      first | apply Trace.storeD ty28 (.plain rfl) (.plain rfl) rfl rfl (by simp [spliceL]) (by simp [AV.oneB, single, intsD, rowsD]) (by simp [spliceL]) (spliceL_all (by simp [spliceL])) | apply Trace.storeD ty28 (.plain rfl) (.plain rfl) rfl rfl (by simp [spliceL]) (by simp [AV.oneB, single, intsD, rowsD]) (by simp [spliceL]) rfl | apply Trace.storeDA ty28 (.plain rfl) (.plain rfl) rfl rfl (by simp [spliceL]) (by simp [AV.oneB, single]) (by simp [spliceL]) rfl | apply Trace.storeLoc ty28 (.plain rfl) (.plain rfl) rfl rfl (by simp [spliceL]) (by simp [AV.oneB, single]) (by simp) rfl | apply Trace.storeRow ty28 (.plain rfl) (.plain rfl) rfl rfl rfl rfl (by decide) (by simp [AV.oneB, single]) rfl (by omega)
      exact .nil _
    · exact keepOK_of hk hn rfl
    apply WPA.ret
    refine ⟨.inr rfl, ⟨_, (.cons (.cellD rfl rfl ty28 rfl) .nil), ?_⟩, by simp [St.get]⟩
    rw [planOf_d]
    rfl

/-- soundpost/soundpostref23.with -/
theorem spec63 {g : Gr} (hok : g.OK) {at_ : List Int} (hat : AtOK g at_) : FnSpec Try.prog 63 [g.av, .d (intsD at_)] [] (.d (g.planOf at_).d) [] [] := by
  have hn2 := hok.m
  have hn1 := hok.n
  refine fnSpec_of (rs := [.cell 4 28]) Try.func63 rfl rfl (Nat.le_of_ble_eq_true rfl) (by simp [St.get]) fun E hk hn => ?_
  apply WPA.seq
  apply WPA.region
  · first | apply Trace.boxD 2 [] (.plain rfl) rfl rfl | apply Trace.box 2 [] (.plain rfl) rfl rfl rfl
    apply Trace.alloc 4 [] (.data _) zo28 (cellsAs_data _) rfl
    exact .nil _
  · exact keepOK_of hk hn rfl
  apply WPA.seq
  apply WPA.region
  · apply Trace.pu [] (.move (.plain rfl))
    apply Trace.pu [] (.build zo28 pl28 (.cons (.plain rfl) rfl rfl (Nat.le_of_ble_eq_true rfl) (.nil _ _)) rfl)
    apply Trace.alloc 5 [] (.data _) zo28 (cellsAs_data _) rfl
    first | apply Trace.storeD ty28 (.plain rfl) (.plain rfl) rfl rfl (by simp [spliceL]) (by simp [AV.oneB, single, intsD, rowsD]) (by simp [spliceL]) (spliceL_all (by simp [spliceL])) | apply Trace.storeD ty28 (.plain rfl) (.plain rfl) rfl rfl (by simp [spliceL]) (by simp [AV.oneB, single, intsD, rowsD]) (by simp [spliceL]) rfl | apply Trace.storeDA ty28 (.plain rfl) (.plain rfl) rfl rfl (by simp [spliceL]) (by simp [AV.oneB, single]) (by simp [spliceL]) rfl | apply Trace.storeLoc ty28 (.plain rfl) (.plain rfl) rfl rfl (by simp [spliceL]) (by simp [AV.oneB, single]) (by simp) rfl | apply Trace.storeRow ty28 (.plain rfl) (.plain rfl) rfl rfl rfl rfl (by decide) (by simp [AV.oneB, single]) rfl (by omega)
    exact .nil _
  · exact keepOK_of hk hn rfl
  apply WPA.seq
  apply WPA.seq
  refine WPA.ghost (Ghost.dataCells (l := 5) rfl rfl) ?_
  refine WPA.ghost (Ghost.cellNil (lb := 5) (j := 1) (l := 90) (cols := [.ints .i64 []]) (n := 1) rfl rfl rfl rfl (by rw [hk]; decide) rfl (by simp [Col.len]) rfl) ?_
  apply WPA.region
  · apply Trace.pu [] (.assign (.plain rfl))
    exact .nil _
  · exact keepOK_of hk hn rfl
  apply WPA.block
  refine WPA.loop (σ := Nat) (fun i => [(sl 1, .av (.d (intsD at_))), (sl 2, .av (.loc 2 0)), (sl 4, .av (.loc 4 0)), (sl 5, .av (.loc 5 0)), (sl 6, .av (iv .i64 (i))), (bk 2, .blk (.data g.ds)), (bk 4, .blk (.data [.v (.slice none 0 0), .v (.slice none 0 0), .v (.int .i64 0)])), (bk 5, .blk (.cells [.d (intsD at_), .own 90 i, iv .i64 (g.memTo at_ i)])), (bk 90, .blk (.app 1 i [.ints .i64 (g.delTo at_ i)]))]) (fun i => i ≤ g.es.length) (fun i => g.es.length - i) 0
    (St.le_cons rfl (St.le_cons rfl (St.le_cons rfl (St.le_cons rfl (St.le_cons rfl (St.le_cons rfl (St.le_cons rfl (St.le_cons rfl (St.le_cons rfl (St.le_nil _)))))))))) (Nat.zero_le _) fun i hi => ?_
  apply WPA.seq
  apply WPA.seq
  apply WPA.region
  · apply Trace.pu [] (.move (.plain rfl))
    apply Trace.pu [] (.fieldAddr fl25_1 (.plain rfl) rfl)
    first | apply Trace.pu [_] (.loadLoc1D ty23 (.plain rfl) rfl rfl) | apply Trace.pu [_] (.loadLoc1 ty23 (.plain rfl) rfl rfl) | apply Trace.pu [] (.loadRp1 ty23 (.plain rfl) rfl) | apply Trace.pu [_] (.loadCol1 ty23 (.plain rfl) rfl rfl rfl (fun _ => by omega))
    apply Trace.pu [] (.len rfl Try.underlying23 (.plain rfl) rfl)
    apply Trace.pu [] (.cmp (.plain rfl) (.plain rfl) rfl)
    exact .nil _
  · exact keepOK_of hk hn rfl
  refine WPA.cond rfl (fun hc1 => ?_) (fun hc1 => ?_)
  · have hlt : i < g.es.length := by simpa using hc1
    obtain ⟨e, he⟩ : ∃ e, g.es.getD i default = e := ⟨_, rfl⟩
    have hem : e ∈ g.es := by rw [← he]; exact (Gr.edge hok hlt).1
    have hsl : g.sl (fn at_) i = g.slE at_ e := by rw [← he]; rfl
    have hbd := sl_bd hok hat hlt
    have hmb := memTo_bd hok hat i hi
    have hmb2 := memTo_bd hok hat (i + 1) hlt
    rw [memTo_succ, show g.ed i = e from he] at hmb2
    rw [show g.ed i = e from he] at hbd
    have hms := memTo_succ g at_ i
    rw [show g.ed i = e from he, hsl] at hms
    have hds := delTo_succ g at_ i
    rw [hsl] at hds hbd hmb2
    apply WPA.skip
    apply WPA.seq
    apply WPA.block
    apply WPA.seq
    apply WPA.draw mixed
    · first | apply Trace.pu [_] (.loadAllD ty25 (.plain rfl) rfl (by simp [spliceL])) | apply Trace.pu [_] (.loadLocD ty25 (.plain rfl) rfl (fun _ => by simp [spliceL])) | apply Trace.pu [_] (.loadLoc ty25 (.plain rfl) rfl (fun _ => Nat.le_of_ble_eq_true rfl)) | apply Trace.pu [] (.loadRp ty25 (.plain rfl) (fun _ => by decide)) | apply Trace.pu [] (.loadRp ty25 (.plain rfl) (fun _ => Nat.le_of_ble_eq_true rfl)) | apply Trace.pu [_] (.loadCol ty25 (.plain rfl) rfl rfl (fun _ => by decide) (fun _ => by omega)) | apply Trace.pu [_] (.loadArr ty25 (.plain rfl) rfl)
      apply Trace.pu [] (.fieldAddr fl25_1 (.plain rfl) rfl)
      first | apply Trace.pu [_] (.loadLoc1D ty23 (.plain rfl) rfl rfl) | apply Trace.pu [_] (.loadLoc1 ty23 (.plain rfl) rfl rfl) | apply Trace.pu [] (.loadRp1 ty23 (.plain rfl) rfl) | apply Trace.pu [_] (.loadCol1 ty23 (.plain rfl) rfl rfl rfl (fun _ => by omega))
      apply Trace.pu [] (.move (.plain rfl))
      apply Trace.pu [] ((Pure.indexRows el23 (.plain rfl) (.plain rfl) (fun _ => ⟨by omega, by omega⟩)).to (y := .rp e.ds) (by show AV.rp (g.es.getD i default).ds = _; rw [he]))
      first | apply Trace.pu [_] (.loadAllD ty34 (.plain rfl) rfl (by simp [spliceL])) | apply Trace.pu [_] (.loadLocD ty34 (.plain rfl) rfl (fun _ => by simp [spliceL])) | apply Trace.pu [_] (.loadLoc ty34 (.plain rfl) rfl (fun _ => Nat.le_of_ble_eq_true rfl)) | apply Trace.pu [] (.loadRp ty34 (.plain rfl) (fun _ => by decide)) | apply Trace.pu [] (.loadRp ty34 (.plain rfl) (fun _ => Nat.le_of_ble_eq_true rfl)) | apply Trace.pu [_] (.loadCol ty34 (.plain rfl) rfl rfl (fun _ => by decide) (fun _ => by omega)) | apply Trace.pu [_] (.loadArr ty34 (.plain rfl) rfl)
      apply Trace.pu [] (.move (.plain rfl))
      apply Trace.cu (callArgs0 (.cons (.plain rfl) (.cons (.plain rfl) (.cons (.plain rfl) .nil)))) (rslackD hok rfl hat.len.symm hat.wide hem) en67
      apply Trace.pu [] (.assign (.plain rfl))
      exact .nil _
    · rfl
    · exact keepOK_of hk hn rfl
    apply WPA.seq
    apply WPA.region
    · apply Trace.pu [] (.fieldAddr fl28_1 (.plain rfl) rfl)
      first | apply Trace.pu [_] (.loadLoc1D ty22 (.plain rfl) rfl rfl) | apply Trace.pu [_] (.loadLoc1 ty22 (.plain rfl) rfl rfl) | apply Trace.pu [] (.loadRp1 ty22 (.plain rfl) rfl) | apply Trace.pu [_] (.loadCol1 ty22 (.plain rfl) rfl rfl rfl (fun _ => by omega))
      apply Trace.pu [] (.move (.plain rfl))
      apply Trace.buildSlice 28 [] so22 zo3 rfl (by decide) (by decide) (.cons (.plain rfl) rfl rfl (Nat.le_of_ble_eq_true rfl) (.nil _ _)) rfl rfl rfl
      apply Trace.append 29 [bk 90, bk 28, sl 26, sl 28] ap22 kd22 (by decide) (.own (.plain rfl) rfl) (.own (.plain rfl) rfl) (Col.ones rfl) (labs_ok rfl) (by omega) (by omega) rfl rfl
      apply Trace.pu [] (.fieldAddr fl28_1 (.plain rfl) rfl)
      first | apply Trace.storeD ty22 (.plain rfl) (.plain rfl) rfl rfl rfl (by simp [AV.oneB, single]) (Nat.le_of_ble_eq_true rfl) rfl | apply Trace.storeDA ty22 (.plain rfl) (.plain rfl) rfl rfl rfl (by simp [AV.oneB, single]) (Nat.le_of_ble_eq_true rfl) rfl | apply Trace.storeLoc ty22 (.plain rfl) (.plain rfl) rfl rfl rfl (by simp [AV.oneB, single]) (Nat.le_of_ble_eq_true rfl) rfl | apply Trace.storeRow ty22 (.plain rfl) (.plain rfl) rfl rfl rfl rfl (by decide) (by simp [AV.oneB, single]) rfl (by omega)
      exact .nil _
    · exact keepOK_of hk hn rfl
    refine WPA.ghost (Ghost.swap 90 29 (by rw [hk]; decide) (by rw [hk]; decide) rfl) ?_
    apply WPA.draw mixed
    · apply Trace.pu [] (.fieldAddr fl28_2 (.plain rfl) rfl)
      first | apply Trace.pu [_] (.loadLoc1D ty3 (.plain rfl) rfl rfl) | apply Trace.pu [_] (.loadLoc1 ty3 (.plain rfl) rfl rfl) | apply Trace.pu [] (.loadRp1 ty3 (.plain rfl) rfl) | apply Trace.pu [_] (.loadCol1 ty3 (.plain rfl) rfl rfl rfl (fun _ => by omega))
      apply Trace.pu [] (.move (.plain rfl))
      apply Trace.pu [] (.fieldAddr fl25_1 (.plain rfl) rfl)
      first | apply Trace.pu [_] (.loadLoc1D ty23 (.plain rfl) rfl rfl) | apply Trace.pu [_] (.loadLoc1 ty23 (.plain rfl) rfl rfl) | apply Trace.pu [] (.loadRp1 ty23 (.plain rfl) rfl) | apply Trace.pu [_] (.loadCol1 ty23 (.plain rfl) rfl rfl rfl (fun _ => by omega))
      apply Trace.pu [] (.move (.plain rfl))
      apply Trace.pu [] ((Pure.indexRows el23 (.plain rfl) (.plain rfl) (fun _ => ⟨by omega, by omega⟩)).to (y := .rp e.ds) (by show AV.rp (g.es.getD i default).ds = _; rw [he]))
      apply Trace.pu [] (.fieldAddr fl34_2 (.plain rfl) rfl)
      first | apply Trace.pu [_] (.loadLoc1D ty3 (.plain rfl) rfl rfl) | apply Trace.pu [_] (.loadLoc1 ty3 (.plain rfl) rfl rfl) | apply Trace.pu [] (.loadRp1 ty3 (.plain rfl) rfl) | apply Trace.pu [_] (.loadCol1 ty3 (.plain rfl) rfl rfl rfl (fun _ => by omega))
      apply Trace.pu [] (.arith (.plain rfl) (.plain rfl) rfl (fun _ => bd64 (by omega)))
      apply Trace.pu [] (.arith (.plain rfl) (.plain rfl) rfl (fun _ => bd64 (by omega)))
      apply Trace.pu [] (.fieldAddr fl28_2 (.plain rfl) rfl)
      first | apply Trace.storeD ty3 (.plain rfl) (.plain rfl) rfl rfl rfl (by simp [AV.oneB, single]) (Nat.le_of_ble_eq_true rfl) rfl | apply Trace.storeDA ty3 (.plain rfl) (.plain rfl) rfl rfl rfl (by simp [AV.oneB, single]) (Nat.le_of_ble_eq_true rfl) rfl | apply Trace.storeLoc ty3 (.plain rfl) (.plain rfl) rfl rfl rfl (by simp [AV.oneB, single]) (Nat.le_of_ble_eq_true rfl) rfl | apply Trace.storeRow ty3 (.plain rfl) (.plain rfl) rfl rfl rfl rfl (by decide) (by simp [AV.oneB, single]) rfl (by omega)
      exact .nil _
    · rfl
    · exact keepOK_of hk hn rfl
    apply WPA.region
    · apply Trace.pu [] (.move (.plain rfl))
      apply Trace.pu [] (.arith (.plain rfl) (.plain rfl) rfl (fun _ => bd64 (by omega)))
      apply Trace.pu [] (.assign (.plain rfl))
      exact .nil _
    · exact keepOK_of hk hn rfl
    exact ⟨i + 1, by omega, by omega, St.le_cons rfl (St.le_cons rfl (St.le_cons rfl (St.le_cons rfl (St.le_cons (slI (by omega)) (St.le_cons rfl (St.le_cons rfl (St.le_cons (congrArg (fun z => some (Cont.blk (.cells [.d (intsD at_), .own 90 (i + 1), iv .i64 z]))) hms.symm) (St.le_cons (app_eq64 hds.symm) (St.le_nil _)))))))))⟩
  · have him : i = g.es.length := by
      have : ¬ ((i : Int) < g.es.length) := by simpa using hc1
      omega
    subst him
    apply WPA.exit
    apply WPA.seq
    refine WPA.ghost (Ghost.cellFreeze (lb := 5) (j := 1) (l := 90) (g := fun k => [Col.at (.ints .i64 (g.delTo at_ g.es.length)) k]) rfl rfl rfl rfl (fun i hi => rfl) rfl) ?_
    apply WPA.region
    · first | apply Trace.pu [_] (.loadAllD ty28 (.plain rfl) rfl (by simp [spliceL])) | apply Trace.pu [_] (.loadLocD ty28 (.plain rfl) rfl (fun _ => by simp [spliceL])) | apply Trace.pu [_] (.loadLoc ty28 (.plain rfl) rfl (fun _ => Nat.le_of_ble_eq_true rfl)) | apply Trace.pu [] (.loadRp ty28 (.plain rfl) (fun _ => by decide)) | apply Trace.pu [] (.loadRp ty28 (.plain rfl) (fun _ => Nat.le_of_ble_eq_true rfl)) | apply Trace.pu [_] (.loadCol ty28 (.plain rfl) rfl rfl (fun _ => by decide) (fun _ => by omega)) | apply Trace.pu [_] (.loadArr ty28 (.plain rfl) rfl)
      first | apply Trace.storeD ty28 (.plain rfl) (.plain rfl) rfl rfl (by simp [spliceL]) (by simp [AV.oneB, single, intsD, rowsD]) (by simp [spliceL]) (spliceL_all (by simp [spliceL])) | apply Trace.storeD ty28 (.plain rfl) (.plain rfl) rfl rfl (by simp [spliceL]) (by simp [AV.oneB, single, intsD, rowsD]) (by simp [spliceL]) rfl | apply Trace.storeDA ty28 (.plain rfl) (.plain rfl) rfl rfl (by simp [spliceL]) (by simp [AV.oneB, single]) (by simp [spliceL]) rfl | apply Trace.storeLoc ty28 (.plain rfl) (.plain rfl) rfl rfl (by simp [spliceL]) (by simp [AV.oneB, single]) (by simp) rfl | apply Trace.storeRow ty28 (.plain rfl) (.plain rfl) rfl rfl rfl rfl (by decide) (by simp [AV.oneB, single]) rfl (by omega)
      exact .nil _
    · exact keepOK_of hk hn rfl
    apply WPA.ret
    refine ⟨.inr rfl, ⟨_, (.cons (.cellD rfl rfl ty28 rfl) .nil), ?_⟩, by simp [St.get]⟩
    rw [planOf_d]
    rfl

end Go.Proofs.Ytcidkahhfdcddaa


/- Comparisons of plans; sizes of graphs; sets of nodes. -/
namespace Go.Proofs.Ytcidkahhfdcddaa
open Go
set_option linter.unusedVariables false
set_option linter.unusedSimpArgs false
set_option maxRecDepth 10000

theorem bif_and (a b : Bool) : (bif a then b else false) = (a && b) := by cases a <;> rfl
theorem eq_fn {a b : List Int} (hl : a.length = b.length) (h : ∀ j, j < a.length → a.getD j 0 = b.getD j 0) : a = b := ext_fn hl h
def Pl.same (p q : Pl) : Bool := decide (p.at_ = q.at_) && decide (p.del = q.del) && decide (p.mem = q.mem)
theorem Pl.same_iff {p q : Pl} : p.same q = true ↔ p = q := by
  cases p; cases q; simp [Pl.same, and_assoc]


end Go.Proofs.Ytcidkahhfdcddaa


/- Sizes of graphs; sets of nodes. -/
namespace Go.Proofs.Ytcidkahhfdcddaa
open Go
set_option linter.unusedVariables false
set_option linter.unusedSimpArgs false
set_option maxRecDepth 10000

def Gr.lsum (g : Gr) (i : Nat) : Int := sm i fun j => max 0 (g.lat.getD j 0)
theorem lsum_bd {g : Gr} {i : Nat} (h : ∀ j, j < i → g.lat.getD j 0 ≤ 4096) : 0 ≤ g.lsum i ∧ g.lsum i ≤ (i : Int) * 4096 := by
  refine ⟨sm_nonneg fun j _ => by omega, ?_⟩
  have := sm_le (m := i) (f := fun j => max 0 (g.lat.getD j 0)) (g := fun _ => 4096) fun j hj => by have := h j hj; omega
  rwa [sm_const] at this
def Gr.some (g : Gr) : Bool := (List.range (min g.lat.length 41)).all (fun j => decide (g.lat.getD j 0 ≤ 4096)) && (decide (g.lat.length ≤ 40) && decide (g.es.length ≤ 100) && decide (g.lsum (min g.lat.length 41) ≤ 20000))
theorem Gr.some_small {g : Gr} (h : g.some = true) : g.lat.length ≤ 40 ∧ g.es.length ≤ 100 := by
  simp only [Gr.some, Bool.and_eq_true, decide_eq_true_eq] at h
  exact h.2.1
def Gr.few (g : Gr) : Bool := (List.range (min g.lat.length 8)).all (fun j => decide (g.lat.getD j 0 ≤ 6)) && ((List.range (min g.es.length 14)).all (fun j => decide ((g.ed j).d ≤ 12)) && (decide (g.lat.length ≤ 8) && decide (g.es.length ≤ 14)))
theorem wrapI {x : Int} (h : -9223372036854775808 ≤ x ∧ x ≤ 9223372036854775807) : IntKind.i64.wrap x = x := IntKind.wrap_in _ _ (bd64 h)
theorem wrapU {x : Int} (h : 0 ≤ x ∧ x ≤ 18446744073709551615) : IntKind.u64.wrap x = x := IntKind.wrap_in .u64 _ ⟨by show (0 : Int) ≤ x; omega, by show x ≤ (18446744073709551615 : Int); omega⟩
/-- Is a node in a set? -/
def inS (s v : Nat) : Bool := decide (s / 2 ^ v % 2 = 1)
theorem shrN (u v : Nat) (hv : v ≤ 64) : ((u : Nat) : Int).fdiv (2 ^ (min (((v : Nat) : Int).toNat) IntKind.i64.bits)) = ((u / 2 ^ v : Nat) : Int) := by
  have e : min (((v : Nat) : Int).toNat) IntKind.i64.bits = v := by show min _ 64 = v; rw [Int.toNat_natCast]; omega
  rw [e, Int.fdiv_eq_ediv_of_nonneg _ (Int.le_of_lt (Int.pow_pos (by decide)))]
  norm_cast
theorem andI (u : Nat) (hu : u < 4611686018427387904) : IntKind.i64.wrap ((BitVec.ofInt IntKind.i64.bits (u : Int) &&& BitVec.ofInt IntKind.i64.bits 1).toNat : Int) = ((u % 2 : Nat) : Int) := by
  have e1 : (BitVec.ofInt IntKind.i64.bits (u : Int)).toNat = u := by
    simp [IntKind.bits]; omega
  have e2 : (BitVec.ofInt IntKind.i64.bits 1).toNat = 1 := by rfl
  rw [BitVec.toNat_and, e1, e2, Nat.and_one_is_mod]
  exact wrapI (by omega)
def sizeTo (s i : Nat) : Nat := ((List.range i).filter (inS s)).length
theorem sizeTo_succ (s i : Nat) : sizeTo s (i + 1) = sizeTo s i + if inS s i then 1 else 0 := by
  simp only [sizeTo, List.range_succ, List.filter_append, List.length_append]
  by_cases h : inS s i = true <;> simp [h]
theorem sizeTo_le (s i : Nat) : sizeTo s i ≤ i := by
  have := List.length_filter_le (inS s) (List.range i)
  simpa [sizeTo] using this
/-- Positions, the nodes of a set below i raised. -/
def raiseTo (l : List Int) (s i : Nat) : List Int := (List.range l.length).map fun k => l.getD k 0 + if k < i ∧ inS s k = true then 1 else 0
abbrev raiseS (l : List Int) (s : Nat) : List Int := raiseTo l s l.length
theorem raiseTo_length (l : List Int) (s i : Nat) : (raiseTo l s i).length = l.length := by simp [raiseTo]
theorem raiseTo_at (l : List Int) (s i : Nat) {k : Nat} (hk : k < l.length) : (raiseTo l s i).getD k 0 = l.getD k 0 + if k < i ∧ inS s k = true then 1 else 0 := by
  rw [getD_lt _ _ (by rw [raiseTo_length]; exact hk)]
  simp only [raiseTo, List.getElem_map, List.getElem_range]
theorem raiseTo_zero (l : List Int) (s : Nat) : raiseTo l s 0 = l := ext_fn (raiseTo_length l s 0) fun k hk => by
  rw [raiseTo_length] at hk
  show (raiseTo l s 0).getD k 0 = l.getD k 0
  rw [raiseTo_at l s 0 hk, if_neg (by omega)]; omega
theorem raiseTo_in {l : List Int} {s i : Nat} (hi : i < l.length) (h : inS s i = true) : raiseTo l s (i + 1) = (raiseTo l s i).set i ((raiseTo l s i).getD i 0 + 1) := by
  refine ext_fn (by simp [raiseTo_length]) fun k hk => ?_
  rw [raiseTo_length] at hk
  show (raiseTo l s (i + 1)).getD k 0 = ((raiseTo l s i).set i ((raiseTo l s i).getD i 0 + 1)).getD k 0
  rw [getD_set (by rw [raiseTo_length]; exact hi), raiseTo_at l s (i + 1) hk, raiseTo_at l s i hk, raiseTo_at l s i hi]
  by_cases e : i = k
  · subst e; simp [h]
  · rw [if_neg e]
    by_cases h2 : k < i ∧ inS s k = true
    · rw [if_pos h2, if_pos ⟨by omega, h2.2⟩]
    · rw [if_neg h2, if_neg (fun h3 => h2 ⟨by omega, h3.2⟩)]
theorem raiseTo_out {l : List Int} {s i : Nat} (h : ¬ inS s i = true) : raiseTo l s (i + 1) = raiseTo l s i := by
  simp only [raiseTo]
  refine List.map_congr_left fun k _ => ?_
  by_cases h2 : k < i ∧ inS s k = true
  · rw [if_pos h2, if_pos ⟨by omega, h2.2⟩]
  · rw [if_neg h2, if_neg (fun h3 => h2 ⟨by rcases Nat.lt_succ_iff_lt_or_eq.1 h3.1 with h4 | h4; exact h4; exact absurd (h4 ▸ h3.2) h, h3.2⟩)]

/-- soundpost/soundpostref23.Few -/
theorem spec11 (g : Gr) (hz : g.Sz) : FnSpec Try.prog 11 [g.av] [] (bv g.few) [] [] := by
  have hn1 := hz.n
  have hn2 := hz.m
  refine fnSpec_of (rs := [.tmp 2]) Try.func11 rfl rfl (Nat.le_of_ble_eq_true rfl) (by simp [St.get]) fun E hk hn => ?_
  apply WPA.seq
  apply WPA.region
  · first | apply Trace.boxD 1 [] (.plain rfl) rfl rfl | apply Trace.box 1 [] (.plain rfl) rfl rfl rfl
    apply Trace.pu [] (.assign (.plain rfl))
    exact .nil _
  · exact keepOK_of hk hn rfl
  apply WPA.seq
  apply WPA.seq
  apply WPA.region
  · apply Trace.pu [] (.assign (.plain rfl))
    exact .nil _
  · exact keepOK_of hk hn rfl
  apply WPA.block
  refine WPA.loop (σ := Nat) (fun i => [(sl 1, .av (.loc 1 0)), (sl 3, .av (iv .i64 (i))), (bk 1, .blk (.data g.ds))]) (fun i => i ≤ g.lat.length ∧ i ≤ 8 ∧ ∀ j, j < i → g.lat.getD j 0 ≤ 6) (fun i => 8 - i) 0
    (St.le_cons rfl (St.le_cons rfl (St.le_cons rfl (St.le_nil _)))) ⟨Nat.zero_le _, by omega, fun j h => by omega⟩ fun i hi => ?_
  apply WPA.seq
  apply WPA.seq
  apply WPA.region
  · apply Trace.pu [] (.move (.plain rfl))
    apply Trace.pu [] (.fieldAddr fl25_0 (.plain rfl) rfl)
    first | apply Trace.pu [_] (.loadLoc1D ty22 (.plain rfl) rfl rfl) | apply Trace.pu [_] (.loadLoc1 ty22 (.plain rfl) rfl rfl) | apply Trace.pu [] (.loadRp1 ty22 (.plain rfl) rfl) | apply Trace.pu [_] (.loadCol1 ty22 (.plain rfl) rfl rfl rfl (fun _ => by omega))
    apply Trace.pu [] (.len rfl Try.underlying22 (.plain rfl) rfl)
    apply Trace.pu [] (.cmp (.plain rfl) (.plain rfl) rfl)
    apply Trace.pu [] (.move (.plain rfl))
    apply Trace.pg [] rfl (.move (.plain rfl))
    apply Trace.pg [] rfl (.cmp (.gd rfl (fun h => h)) (.plain rfl) rfl)
    apply Trace.pu [] (.pick (.plain rfl) (.gd rfl (by simp)) (.plain rfl))
    exact .nil _
  · exact keepOK_of hk hn rfl
  refine WPA.cond rfl (fun hc1 => ?_) (fun hc1 => ?_)
  · obtain ⟨hlt, hlt8⟩ : i < g.lat.length ∧ i < 8 := by
      have h9 : (bif decide ((i : Int) < g.lat.length) then decide ((i : Int) < 8) else false) = true := hc1
      rw [bif_and, Bool.and_eq_true, decide_eq_true_eq, decide_eq_true_eq] at h9
      omega
    apply WPA.skip
    apply WPA.seq
    apply WPA.block
    apply WPA.seq
    apply WPA.region
    · apply Trace.pu [] (.fieldAddr fl25_0 (.plain rfl) rfl)
      first | apply Trace.pu [_] (.loadLoc1D ty22 (.plain rfl) rfl rfl) | apply Trace.pu [_] (.loadLoc1 ty22 (.plain rfl) rfl rfl) | apply Trace.pu [] (.loadRp1 ty22 (.plain rfl) rfl) | apply Trace.pu [_] (.loadCol1 ty22 (.plain rfl) rfl rfl rfl (fun _ => by omega))
      apply Trace.pu [] (.move (.plain rfl))
      first | apply Trace.pu [] (.indexRows el22 (.plain rfl) (.plain rfl) (fun _ => ⟨by omega, by omega⟩)) | apply Trace.pu [] (.indexOwn el22 (.plain rfl) (.plain rfl) (fun _ => ⟨by omega, by omega⟩)) | apply Trace.pu [] (.indexSl el22 (.plain rfl) (.plain rfl) (fun _ => ⟨by omega, by omega⟩))
      first | apply Trace.pu [_] (.loadLoc1D ty3 (.plain rfl) rfl rfl) | apply Trace.pu [_] (.loadLoc1 ty3 (.plain rfl) rfl rfl) | apply Trace.pu [] (.loadRp1 ty3 (.plain rfl) rfl) | apply Trace.pu [_] (.loadCol1 ty3 (.plain rfl) rfl rfl rfl (fun _ => by omega))
      apply Trace.pu [] (.cmp (.plain rfl) (.plain rfl) rfl)
      exact .nil _
    · exact keepOK_of hk hn rfl
    refine WPA.cond rfl (fun hc2 => ?_) (fun hc2 => ?_)
    · apply WPA.seq
      apply WPA.region
      · apply Trace.pu [] (.assign (.plain rfl))
        exact .nil _
      · exact keepOK_of hk hn rfl
      apply WPA.ret
      refine ⟨.inr rfl, ⟨_, (.cons (.tmp rfl) .nil), ?_⟩, by simp [St.get]⟩
      have hx : ¬ (g.lat.getD i 0 ≤ 6) := by have : (6 : Int) < g.lat.getD i 0 := by simpa using hc2
                                             omega
      have e : g.few = false := by
        unfold Gr.few
        rw [Bool.and_eq_false_iff]
        left
        rw [List.all_eq_false]
        exact ⟨i, by simp; omega, by simpa using hx⟩
      rw [e]; rfl
    · apply WPA.skip
      apply WPA.region
      · apply Trace.pu [] (.move (.plain rfl))
        apply Trace.pu [] (.arith (.plain rfl) (.plain rfl) rfl (fun _ => bd64 (by omega)))
        apply Trace.pu [] (.assign (.plain rfl))
        exact .nil _
      · exact keepOK_of hk hn rfl
      have hx : g.lat.getD i 0 ≤ 6 := by simpa using hc2
      exact ⟨i + 1, ⟨by omega, by omega, fun j h => by
        by_cases hj : j = i
        · rw [hj]; exact hx
        · exact hi.2.2 j (by omega)⟩, by omega, St.le_cons rfl (St.le_cons (slI (by omega)) (St.le_cons rfl (St.le_nil _)))⟩
  · have hK : min (g.lat.length) 8 = i := by
      have h9 : (bif decide ((i : Int) < g.lat.length) then decide ((i : Int) < 8) else false) = false := hc1
      rw [bif_and, Bool.and_eq_false_iff, decide_eq_false_iff_not, decide_eq_false_iff_not] at h9
      omega
    have hA : (List.range (min g.lat.length 8)).all (fun j => decide (g.lat.getD j 0 ≤ 6)) = true := by
      rw [hK]; exact List.all_eq_true.2 fun j hj => by simpa using hi.2.2 j (by simpa using hj)
    apply WPA.exit
    apply WPA.seq
    apply WPA.seq
    apply WPA.region
    · apply Trace.pu [] (.assign (.plain rfl))
      exact .nil _
    · exact keepOK_of hk hn rfl
    apply WPA.block
    refine WPA.loop (σ := Nat) (fun i => [(sl 1, .av (.loc 1 0)), (sl 4, .av (iv .i64 (i))), (bk 1, .blk (.data g.ds))]) (fun i => i ≤ g.es.length ∧ i ≤ 14 ∧ ∀ j, j < i → (g.ed j).d ≤ 12) (fun i => 14 - i) 0
      (St.le_cons rfl (St.le_cons rfl (St.le_cons rfl (St.le_nil _)))) ⟨Nat.zero_le _, by omega, fun j h => by omega⟩ fun i hi => ?_
    apply WPA.seq
    apply WPA.seq
    apply WPA.region
    · apply Trace.pu [] (.move (.plain rfl))
      apply Trace.pu [] (.fieldAddr fl25_1 (.plain rfl) rfl)
      first | apply Trace.pu [_] (.loadLoc1D ty23 (.plain rfl) rfl rfl) | apply Trace.pu [_] (.loadLoc1 ty23 (.plain rfl) rfl rfl) | apply Trace.pu [] (.loadRp1 ty23 (.plain rfl) rfl) | apply Trace.pu [_] (.loadCol1 ty23 (.plain rfl) rfl rfl rfl (fun _ => by omega))
      apply Trace.pu [] (.len rfl Try.underlying23 (.plain rfl) rfl)
      apply Trace.pu [] (.cmp (.plain rfl) (.plain rfl) rfl)
      apply Trace.pu [] (.move (.plain rfl))
      apply Trace.pg [] rfl (.move (.plain rfl))
      apply Trace.pg [] rfl (.cmp (.gd rfl (fun h => h)) (.plain rfl) rfl)
      apply Trace.pu [] (.pick (.plain rfl) (.gd rfl (by simp)) (.plain rfl))
      exact .nil _
    · exact keepOK_of hk hn rfl
    refine WPA.cond rfl (fun hc3 => ?_) (fun hc3 => ?_)
    · obtain ⟨hlt, hlt8⟩ : i < g.es.length ∧ i < 14 := by
        have h9 : (bif decide ((i : Int) < g.es.length) then decide ((i : Int) < 14) else false) = true := hc3
        rw [bif_and, Bool.and_eq_true, decide_eq_true_eq, decide_eq_true_eq] at h9
        omega
      apply WPA.skip
      apply WPA.seq
      apply WPA.block
      apply WPA.seq
      apply WPA.region
      · apply Trace.pu [] (.fieldAddr fl25_1 (.plain rfl) rfl)
        first | apply Trace.pu [_] (.loadLoc1D ty23 (.plain rfl) rfl rfl) | apply Trace.pu [_] (.loadLoc1 ty23 (.plain rfl) rfl rfl) | apply Trace.pu [] (.loadRp1 ty23 (.plain rfl) rfl) | apply Trace.pu [_] (.loadCol1 ty23 (.plain rfl) rfl rfl rfl (fun _ => by omega))
        apply Trace.pu [] (.move (.plain rfl))
        first | apply Trace.pu [] (.indexRows el23 (.plain rfl) (.plain rfl) (fun _ => ⟨by omega, by omega⟩)) | apply Trace.pu [] (.indexOwn el23 (.plain rfl) (.plain rfl) (fun _ => ⟨by omega, by omega⟩)) | apply Trace.pu [] (.indexSl el23 (.plain rfl) (.plain rfl) (fun _ => ⟨by omega, by omega⟩))
        apply Trace.pu [] (.fieldAddr fl34_3 (.plain rfl) rfl)
        first | apply Trace.pu [_] (.loadLoc1D ty3 (.plain rfl) rfl rfl) | apply Trace.pu [_] (.loadLoc1 ty3 (.plain rfl) rfl rfl) | apply Trace.pu [] (.loadRp1 ty3 (.plain rfl) rfl) | apply Trace.pu [_] (.loadCol1 ty3 (.plain rfl) rfl rfl rfl (fun _ => by omega))
        apply Trace.pu [] (.cmp (.plain rfl) (.plain rfl) rfl)
        exact .nil _
      · exact keepOK_of hk hn rfl
      refine WPA.cond rfl (fun hc4 => ?_) (fun hc4 => ?_)
      · apply WPA.seq
        apply WPA.region
        · apply Trace.pu [] (.assign (.plain rfl))
          exact .nil _
        · exact keepOK_of hk hn rfl
        apply WPA.ret
        refine ⟨.inr rfl, ⟨_, (.cons (.tmp rfl) .nil), ?_⟩, by simp [St.get]⟩
        have hx : ¬ ((g.ed i).d ≤ 12) := by have : (12 : Int) < (g.es.getD i default).d := by simpa using hc4
                                            have h8 : (g.ed i).d = (g.es.getD i default).d := rfl
                                            omega
        have e : g.few = false := by
          unfold Gr.few
          rw [Bool.and_eq_false_iff]
          right
          rw [Bool.and_eq_false_iff]
          left
          rw [List.all_eq_false]
          exact ⟨i, by simp; omega, by simpa using hx⟩
        rw [e]; rfl
      · apply WPA.skip
        apply WPA.region
        · apply Trace.pu [] (.move (.plain rfl))
          apply Trace.pu [] (.arith (.plain rfl) (.plain rfl) rfl (fun _ => bd64 (by omega)))
          apply Trace.pu [] (.assign (.plain rfl))
          exact .nil _
        · exact keepOK_of hk hn rfl
        have hx : (g.ed i).d ≤ 12 := by simpa using hc4
        exact ⟨i + 1, ⟨by omega, by omega, fun j h => by
          by_cases hj : j = i
          · rw [hj]; exact hx
          · exact hi.2.2 j (by omega)⟩, by omega, St.le_cons rfl (St.le_cons (slI (by omega)) (St.le_cons rfl (St.le_nil _)))⟩
    · apply WPA.exit
      apply WPA.seq
      apply WPA.region
      · apply Trace.pu [] (.fieldAddr fl25_0 (.plain rfl) rfl)
        first | apply Trace.pu [_] (.loadLoc1D ty22 (.plain rfl) rfl rfl) | apply Trace.pu [_] (.loadLoc1 ty22 (.plain rfl) rfl rfl) | apply Trace.pu [] (.loadRp1 ty22 (.plain rfl) rfl) | apply Trace.pu [_] (.loadCol1 ty22 (.plain rfl) rfl rfl rfl (fun _ => by omega))
        apply Trace.pu [] (.len rfl Try.underlying22 (.plain rfl) rfl)
        apply Trace.pu [] (.cmp (.plain rfl) (.plain rfl) rfl)
        apply Trace.pu [] (.move (.plain rfl))
        apply Trace.pg [] rfl (.fieldAddr fl25_1 (.plain rfl) rfl)
        first | apply Trace.pg [_] rfl (.loadLoc1D ty23 (.gd rfl (fun h => h)) rfl rfl) | apply Trace.pg [_] rfl (.loadLoc1 ty23 (.gd rfl (fun h => h)) rfl rfl) | apply Trace.pg [] rfl (.loadRp1 ty23 (.gd rfl (fun h => h)) rfl) | apply Trace.pg [_] rfl (.loadCol1 ty23 (.gd rfl (fun h => h)) rfl rfl rfl (fun _ => by omega))
        apply Trace.pg [] rfl (.len rfl Try.underlying23 (.gd rfl (fun h => h)) rfl)
        apply Trace.pg [] rfl (.cmp (.gd rfl (fun h => h)) (.plain rfl) rfl)
        apply Trace.pu [] (.pick (.plain rfl) (.gd rfl (by simp)) (.plain rfl))
        apply Trace.pu [] (.assign (.plain rfl))
        exact .nil _
      · exact keepOK_of hk hn rfl
      apply WPA.ret
      refine ⟨.inr rfl, ⟨_, (.cons (.tmp rfl) .nil), ?_⟩, by simp [St.get]⟩
      have hK2 : min (g.es.length) 14 = i := by
        have h9 : (bif decide ((i : Int) < g.es.length) then decide ((i : Int) < 14) else false) = false := hc3
        rw [bif_and, Bool.and_eq_false_iff, decide_eq_false_iff_not, decide_eq_false_iff_not] at h9
        omega
      have e : g.few = (bif decide ((g.lat.length : Int) ≤ 8) then decide ((g.es.length : Int) ≤ 14) else false) := by
        unfold Gr.few
        rw [hA, hK2, bif_and, List.all_eq_true.2 fun j hj => by simpa using hi.2.2 j (by simpa using hj), Bool.true_and, Bool.true_and]
        congr 1
        · exact decide_eq_decide.2 (by omega)
        · exact decide_eq_decide.2 (by omega)
      rw [e]; rfl




end Go.Proofs.Ytcidkahhfdcddaa


/- Positions; Memory of the program and of the reference. -/
namespace Go.Proofs.Ytcidkahhfdcddaa
open Go
set_option linter.unusedVariables false
set_option linter.unusedSimpArgs false
set_option maxRecDepth 10000

def posOk (x : Int) : Bool := decide (0 ≤ x ∧ x ≤ 1099511627776)
def Gr.posB (g : Gr) (at_ : List Int) : Bool := decide (at_.length = g.lat.length) && (at_.all posOk && (List.range g.es.length).all fun i => decide (0 ≤ g.sl (fn at_) i))
theorem all_getD {l : List Int} {p : Int → Bool} : (l.all p = true) ↔ ∀ j, j < l.length → p (l.getD j 0) = true := by
  rw [List.all_eq_true]
  constructor
  · intro h j hj; rw [getD_lt _ _ hj]; exact h _ (List.getElem_mem hj)
  · intro h x hx; obtain ⟨j, hj, rfl⟩ := List.mem_iff_getElem.1 hx; have := h j hj; rwa [getD_lt _ _ hj] at this
theorem atOK_of {g : Gr} {at_ : List Int} (hl : at_.length = g.lat.length) (h : at_.all posOk = true) : AtOK g at_ := ⟨hl, fun v => by
  by_cases hv : v < at_.length
  · have := all_getD.1 h v hv
    simp only [posOk, decide_eq_true_eq] at this
    omega
  · rw [getD_ge _ _ (by omega)]; omega⟩
abbrev Pl.none : Pl := ⟨[], [], 0⟩
def Gr.memory (g : Gr) (at_ : List Int) : Pl × Int := if g.check ≠ 0 then (Pl.none, g.check) else if g.posB at_ = true then (g.planOf at_, 0) else (Pl.none, 230)
/-- The first element that fits. -/
def idxF (p : Int → Bool) (l : List Int) : Int := if l.any p = true then (l.findIdx p : Int) else -1
theorem idxF_ge (p : Int → Bool) (l : List Int) : decide (0 ≤ idxF p l) = l.any p := by
  unfold idxF
  split
  · rename_i h; rw [h]; exact decide_eq_true (by omega)
  · rename_i h; rw [decide_eq_false (by omega)]; simpa using h
theorem idxF_hit {p : Int → Bool} {l : List Int} {i : Nat} (hi : i < l.length) (h : p (l.getD i 0) = true) (hb : ∀ j, j < i → p (l.getD j 0) = false) : idxF p l = (i : Int) := by
  rw [getD_lt _ _ hi] at h
  have ha : l.any p = true := List.any_eq_true.2 ⟨_, List.getElem_mem hi, h⟩
  unfold idxF
  rw [if_pos ha]
  have : l.findIdx p = i := (List.findIdx_eq hi).2 ⟨h, fun j hj => by have := hb j hj; rwa [getD_lt _ _ (by omega)] at this⟩
  rw [this]
theorem idxF_miss {p : Int → Bool} {l : List Int} (hb : ∀ j, j < l.length → p (l.getD j 0) = false) : idxF p l = -1 := by
  have ha : l.any p = false := List.any_eq_false.2 fun x hx => by
    obtain ⟨j, hj, rfl⟩ := List.mem_iff_getElem.1 hx
    have := hb j hj
    rw [getD_lt _ _ hj] at this
    simp [this]
  unfold idxF
  rw [if_neg (by rw [ha]; decide)]
/-- soundpost/soundpostref23.Positions -/
theorem spec62 {g : Gr} (hok : g.OK) (at_ : List Int) (ha : at_.length ≤ 4611686018427387904) : FnSpec Try.prog 62 [g.av, .d (intsD at_)] [] (bv (g.posB at_)) [] [] := by
  have hn1 := hok.n
  have hn2 := hok.m
  refine fnSpec_of (rs := [.tmp 4]) Try.func62 rfl rfl (Nat.le_of_ble_eq_true rfl) (by simp [St.get]) fun E hk hn => ?_
  apply WPA.seq
  apply WPA.region
  · first | apply Trace.boxD 2 [] (.plain rfl) rfl rfl | apply Trace.box 2 [] (.plain rfl) rfl rfl rfl
    apply Trace.pu [] (.assign (.plain rfl))
    exact .nil _
  · exact keepOK_of hk hn rfl
  apply WPA.seq
  apply WPA.seq
  apply WPA.region
  · apply Trace.pu [] (.move (.plain rfl))
    apply Trace.pu [] (.len rfl Try.underlying22 (.plain rfl) rfl)
    apply Trace.pu [] (.fieldAddr fl25_0 (.plain rfl) rfl)
    first | apply Trace.pu [_] (.loadLoc1D ty22 (.plain rfl) rfl rfl) | apply Trace.pu [_] (.loadLoc1 ty22 (.plain rfl) rfl rfl) | apply Trace.pu [] (.loadRp1 ty22 (.plain rfl) rfl) | apply Trace.pu [_] (.loadCol1 ty22 (.plain rfl) rfl rfl rfl (fun _ => by omega))
    apply Trace.pu [] (.len rfl Try.underlying22 (.plain rfl) rfl)
    apply Trace.pu [] (.cmp (.plain rfl) (.plain rfl) rfl)
    exact .nil _
  · exact keepOK_of hk hn rfl
  refine WPA.cond rfl (fun hc1 => ?_) (fun hc1 => ?_)
  · apply WPA.seq
    apply WPA.region
    · apply Trace.pu [] (.assign (.plain rfl))
      exact .nil _
    · exact keepOK_of hk hn rfl
    apply WPA.ret
    refine ⟨.inr rfl, ⟨_, (.cons (.tmp rfl) .nil), ?_⟩, by simp [St.get]⟩
    have hl : ¬ (at_.length = g.lat.length) := by
      have : ((at_.length : Int) ≠ g.lat.length) := by simpa using hc1
      omega
    have e : g.posB at_ = false := by unfold Gr.posB; rw [decide_eq_false hl]; rfl
    rw [e]; rfl
  · have hl : at_.length = g.lat.length := by
      have : ¬ ((at_.length : Int) ≠ g.lat.length) := by simpa using hc1
      omega
    apply WPA.skip
    apply WPA.seq
    apply WPA.seq
    apply WPA.region
    · apply Trace.pu [] (.assign (.plain rfl))
      exact .nil _
    · exact keepOK_of hk hn rfl
    apply WPA.block
    refine WPA.loop (σ := Nat) (fun i => [(sl 1, .av (.d (intsD at_))), (sl 2, .av (.loc 2 0)), (sl 5, .av (iv .i64 (i))), (bk 2, .blk (.data g.ds))]) (fun i => i ≤ at_.length ∧ ∀ j, j < i → posOk (at_.getD j 0) = true) (fun i => at_.length - i) 0
      (St.le_cons rfl (St.le_cons rfl (St.le_cons rfl (St.le_cons rfl (St.le_nil _))))) ⟨Nat.zero_le _, fun j h => by omega⟩ fun i hi => ?_
    apply WPA.seq
    apply WPA.seq
    apply WPA.region
    · apply Trace.pu [] (.move (.plain rfl))
      apply Trace.pu [] (.move (.plain rfl))
      apply Trace.pu [] (.len rfl Try.underlying22 (.plain rfl) rfl)
      apply Trace.pu [] (.cmp (.plain rfl) (.plain rfl) rfl)
      exact .nil _
    · exact keepOK_of hk hn rfl
    refine WPA.cond rfl (fun hc2 => ?_) (fun hc2 => ?_)
    · have hlt : i < at_.length := by simpa using hc2
      apply WPA.skip
      apply WPA.seq
      apply WPA.block
      apply WPA.seq
      apply WPA.region
      · apply Trace.pu [] (.move (.plain rfl))
        apply Trace.pu [] (.move (.plain rfl))
        first | apply Trace.pu [] (.indexRows el22 (.plain rfl) (.plain rfl) (fun _ => ⟨by omega, by omega⟩)) | apply Trace.pu [] (.indexOwn el22 (.plain rfl) (.plain rfl) (fun _ => ⟨by omega, by omega⟩)) | apply Trace.pu [] (.indexSl el22 (.plain rfl) (.plain rfl) (fun _ => ⟨by omega, by omega⟩))
        first | apply Trace.pu [_] (.loadLoc1D ty3 (.plain rfl) rfl rfl) | apply Trace.pu [_] (.loadLoc1 ty3 (.plain rfl) rfl rfl) | apply Trace.pu [] (.loadRp1 ty3 (.plain rfl) rfl) | apply Trace.pu [_] (.loadCol1 ty3 (.plain rfl) rfl rfl rfl (fun _ => by omega))
        apply Trace.pu [] (.cmp (.plain rfl) (.plain rfl) rfl)
        apply Trace.pu [] (.move (.plain rfl))
        apply Trace.pg [] rfl (.move (.plain rfl))
        apply Trace.pg [] rfl (.move (.plain rfl))
        first | apply Trace.pg [] rfl (.indexRows el22 (.gd rfl (fun h => h)) (.gd rfl (fun h => h)) (fun _ => ⟨by omega, by omega⟩)) | apply Trace.pg [] rfl (.indexOwn el22 (.gd rfl (fun h => h)) (.gd rfl (fun h => h)) (fun _ => ⟨by omega, by omega⟩)) | apply Trace.pg [] rfl (.indexSl el22 (.gd rfl (fun h => h)) (.gd rfl (fun h => h)) (fun _ => ⟨by omega, by omega⟩))
        first | apply Trace.pg [_] rfl (.loadLoc1D ty3 (.gd rfl (fun h => h)) rfl rfl) | apply Trace.pg [_] rfl (.loadLoc1 ty3 (.gd rfl (fun h => h)) rfl rfl) | apply Trace.pg [] rfl (.loadRp1 ty3 (.gd rfl (fun h => h)) rfl) | apply Trace.pg [_] rfl (.loadCol1 ty3 (.gd rfl (fun h => h)) rfl rfl rfl (fun _ => by omega))
        apply Trace.pg [] rfl (.cmp (.gd rfl (fun h => h)) (.plain rfl) rfl)
        apply Trace.pu [] (.pick (.plain rfl) (.plain rfl) (.gd rfl (by simp)))
        exact .nil _
      · exact keepOK_of hk hn rfl
      refine WPA.cond rfl (fun hc3 => ?_) (fun hc3 => ?_)
      · have hx : posOk (at_.getD i 0) = false := by
          have h9 : (bif decide (at_.getD i 0 < 0) then true else decide (1099511627776 < at_.getD i 0)) = true := hc3
          rw [bif_or, Bool.or_eq_true, decide_eq_true_eq, decide_eq_true_eq] at h9
          exact decide_eq_false (by omega)
        apply WPA.seq
        apply WPA.region
        · apply Trace.pu [] (.assign (.plain rfl))
          exact .nil _
        · exact keepOK_of hk hn rfl
        apply WPA.ret
        refine ⟨.inr rfl, ⟨_, (.cons (.tmp rfl) .nil), ?_⟩, by simp [St.get]⟩
        have e : g.posB at_ = false := by
          unfold Gr.posB
          rw [show at_.all posOk = false from by
            cases h8 : at_.all posOk with
            | false => rfl
            | true => rw [all_getD.1 h8 i hlt] at hx; cases hx]
          simp
        rw [e]; rfl
      · have hx : posOk (at_.getD i 0) = true := by
          have h9 : (bif decide (at_.getD i 0 < 0) then true else decide (1099511627776 < at_.getD i 0)) = false := hc3
          rw [bif_or, Bool.or_eq_false_iff, decide_eq_false_iff_not, decide_eq_false_iff_not] at h9
          exact decide_eq_true (by omega)
        apply WPA.skip
        apply WPA.region
        · apply Trace.pu [] (.move (.plain rfl))
          apply Trace.pu [] (.arith (.plain rfl) (.plain rfl) rfl (fun _ => bd64 (by omega)))
          apply Trace.pu [] (.assign (.plain rfl))
          exact .nil _
        · exact keepOK_of hk hn rfl
        exact ⟨i + 1, ⟨by omega, fun j h => by
          by_cases hj : j = i
          · rw [hj]; exact hx
          · exact hi.2 j (by omega)⟩, by omega, St.le_cons rfl (St.le_cons rfl (St.le_cons (slI (by omega)) (St.le_cons rfl (St.le_nil _))))⟩
    · have hall : at_.all posOk = true := all_getD.2 fun j hj => hi.2 j (by
        have : ¬ ((i : Int) < at_.length) := by simpa using hc2
        omega)
      have hat := atOK_of hl hall
      apply WPA.exit
      apply WPA.seq
      apply WPA.seq
      apply WPA.region
      · apply Trace.pu [] (.assign (.plain rfl))
        exact .nil _
      · exact keepOK_of hk hn rfl
      apply WPA.block
      refine WPA.loop (σ := Nat) (fun i => [(sl 1, .av (.d (intsD at_))), (sl 2, .av (.loc 2 0)), (sl 6, .av (iv .i64 (i))), (bk 2, .blk (.data g.ds))]) (fun i => i ≤ g.es.length ∧ ∀ j, j < i → 0 ≤ g.sl (fn at_) j) (fun i => g.es.length - i) 0
        (St.le_cons rfl (St.le_cons rfl (St.le_cons rfl (St.le_cons rfl (St.le_nil _))))) ⟨Nat.zero_le _, fun j h => by omega⟩ fun i hi => ?_
      apply WPA.seq
      apply WPA.seq
      apply WPA.region
      · apply Trace.pu [] (.move (.plain rfl))
        apply Trace.pu [] (.fieldAddr fl25_1 (.plain rfl) rfl)
        first | apply Trace.pu [_] (.loadLoc1D ty23 (.plain rfl) rfl rfl) | apply Trace.pu [_] (.loadLoc1 ty23 (.plain rfl) rfl rfl) | apply Trace.pu [] (.loadRp1 ty23 (.plain rfl) rfl) | apply Trace.pu [_] (.loadCol1 ty23 (.plain rfl) rfl rfl rfl (fun _ => by omega))
        apply Trace.pu [] (.len rfl Try.underlying23 (.plain rfl) rfl)
        apply Trace.pu [] (.cmp (.plain rfl) (.plain rfl) rfl)
        exact .nil _
      · exact keepOK_of hk hn rfl
      refine WPA.cond rfl (fun hc4 => ?_) (fun hc4 => ?_)
      · have hlt : i < g.es.length := by simpa using hc4
        obtain ⟨e, he⟩ : ∃ e, g.es.getD i default = e := ⟨_, rfl⟩
        have hem : e ∈ g.es := by rw [← he]; exact (Gr.edge hok hlt).1
        have hsl : g.sl (fn at_) i = g.slE at_ e := by rw [← he]; rfl
        apply WPA.skip
        apply WPA.seq
        apply WPA.block
        apply WPA.seq
        apply WPA.draw mixed
        · first | apply Trace.pu [_] (.loadAllD ty25 (.plain rfl) rfl (by simp)) | apply Trace.pu [_] (.loadLocD ty25 (.plain rfl) rfl (fun _ => by simp)) | apply Trace.pu [_] (.loadLoc ty25 (.plain rfl) rfl (fun _ => Nat.le_of_ble_eq_true rfl)) | apply Trace.pu [] (.loadRp ty25 (.plain rfl) (fun _ => by decide)) | apply Trace.pu [] (.loadRp ty25 (.plain rfl) (fun _ => Nat.le_of_ble_eq_true rfl)) | apply Trace.pu [_] (.loadCol ty25 (.plain rfl) rfl rfl (fun _ => by decide) (fun _ => by omega)) | apply Trace.pu [_] (.loadArr ty25 (.plain rfl) rfl)
          apply Trace.pu [] (.fieldAddr fl25_1 (.plain rfl) rfl)
          first | apply Trace.pu [_] (.loadLoc1D ty23 (.plain rfl) rfl rfl) | apply Trace.pu [_] (.loadLoc1 ty23 (.plain rfl) rfl rfl) | apply Trace.pu [] (.loadRp1 ty23 (.plain rfl) rfl) | apply Trace.pu [_] (.loadCol1 ty23 (.plain rfl) rfl rfl rfl (fun _ => by omega))
          apply Trace.pu [] (.move (.plain rfl))
          apply Trace.pu [] ((Pure.indexRows el23 (.plain rfl) (.plain rfl) (fun _ => ⟨by omega, by omega⟩)).to (y := .rp e.ds) (by show AV.rp (g.es.getD i default).ds = _; rw [he]))
          first | apply Trace.pu [_] (.loadAllD ty34 (.plain rfl) rfl (by simp)) | apply Trace.pu [_] (.loadLocD ty34 (.plain rfl) rfl (fun _ => by simp)) | apply Trace.pu [_] (.loadLoc ty34 (.plain rfl) rfl (fun _ => Nat.le_of_ble_eq_true rfl)) | apply Trace.pu [] (.loadRp ty34 (.plain rfl) (fun _ => by decide)) | apply Trace.pu [] (.loadRp ty34 (.plain rfl) (fun _ => Nat.le_of_ble_eq_true rfl)) | apply Trace.pu [_] (.loadCol ty34 (.plain rfl) rfl rfl (fun _ => by decide) (fun _ => by omega)) | apply Trace.pu [_] (.loadArr ty34 (.plain rfl) rfl)
          apply Trace.pu [] (.move (.plain rfl))
          apply Trace.cu (callArgs0 (.cons (.plain rfl) (.cons (.plain rfl) (.cons (.plain rfl) .nil)))) (rslackD hok rfl hat.len.symm hat.wide hem) en67
          apply Trace.pu [] (.cmp (.plain rfl) (.plain rfl) rfl)
          exact .nil _
        · rfl
        · exact keepOK_of hk hn rfl
        refine WPA.cond rfl (fun hc5 => ?_) (fun hc5 => ?_)
        · apply WPA.seq
          apply WPA.region
          · apply Trace.pu [] (.assign (.plain rfl))
            exact .nil _
          · exact keepOK_of hk hn rfl
          apply WPA.ret
          refine ⟨.inr rfl, ⟨_, (.cons (.tmp rfl) .nil), ?_⟩, by simp [St.get]⟩
          have hx : ¬ (0 ≤ g.sl (fn at_) i) := by
            have h9 : g.slE at_ e < 0 := of_decide_eq_true hc5
            rw [hsl]; exact fun h => absurd h9 (by omega)
          have e : g.posB at_ = false := by
            unfold Gr.posB
            rw [show ((List.range g.es.length).all fun i => decide (0 ≤ g.sl (fn at_) i)) = false from List.all_eq_false.2 ⟨i, by simpa using hlt, by simpa using hx⟩]
            simp
          rw [e]; rfl
        · apply WPA.skip
          apply WPA.region
          · apply Trace.pu [] (.move (.plain rfl))
            apply Trace.pu [] (.arith (.plain rfl) (.plain rfl) rfl (fun _ => bd64 (by omega)))
            apply Trace.pu [] (.assign (.plain rfl))
            exact .nil _
          · exact keepOK_of hk hn rfl
          have h9 : ¬ (g.slE at_ e < 0) := of_decide_eq_false hc5
          have hx : 0 ≤ g.sl (fn at_) i := by rw [hsl]; exact Int.not_lt.1 h9
          exact ⟨i + 1, ⟨by omega, fun j h => by
            by_cases hj : j = i
            · rw [hj]; exact hx
            · exact hi.2 j (by omega)⟩, by omega, St.le_cons rfl (St.le_cons rfl (St.le_cons (slI (by omega)) (St.le_cons rfl (St.le_nil _))))⟩
      · apply WPA.exit
        apply WPA.seq
        apply WPA.region
        · apply Trace.pu [] (.assign (.plain rfl))
          exact .nil _
        · exact keepOK_of hk hn rfl
        apply WPA.ret
        refine ⟨.inr rfl, ⟨_, (.cons (.tmp rfl) .nil), ?_⟩, by simp [St.get]⟩
        have e : g.posB at_ = true := by
          unfold Gr.posB
          rw [decide_eq_true hl, hall, List.all_eq_true.2 fun j hj => decide_eq_true (hi.2 j (by
            have : ¬ ((i : Int) < g.es.length) := by simpa using hc4
            simp at hj; omega))]
          rfl
        rw [e]; rfl

/-- slices.IndexFunc[[]int,int] -/
theorem spec52 {p : Int → Bool} {F : FuncId} (hF : ∀ x, FnSpec Try.prog F [iv .i64 x] [] (bv (p x)) [] []) (he : enterOK Try.prog F = true) (l : List Int) (hl : l.length ≤ 4611686018427387904) : FnSpec Try.prog 52 [.d (intsD l), .fn F []] [] (iv .i64 (idxF p l)) [] [] := by
  refine fnSpec_of (rs := [.tmp 4]) Try.func52 rfl rfl (Nat.le_of_ble_eq_true rfl) (by simp [St.get]) fun E hk hn => ?_
  apply WPA.seq
  apply WPA.region
  · apply Trace.pu [] (.assign (.plain rfl))
    exact .nil _
  · exact keepOK_of hk hn rfl
  apply WPA.seq
  apply WPA.seq
  apply WPA.region
  · apply Trace.pu [] (.move (.plain rfl))
    apply Trace.pu [] (.len rfl Try.underlying22 (.plain rfl) rfl)
    apply Trace.pu [] (.move (.plain rfl))
    exact .nil _
  · exact keepOK_of hk hn rfl
  apply WPA.block
  refine WPA.loop (σ := Nat) (fun i => [(sl 0, .av (.d (intsD l))), (sl 1, .av (.fn F [])), (sl 7, .av (iv .i64 (l.length))), (sl 8, .av (iv .i64 (i)))]) (fun i => i ≤ l.length ∧ ∀ j, j < i → p (l.getD j 0) = false) (fun i => l.length - i) 0
    (St.le_cons rfl (St.le_cons rfl (St.le_cons rfl (St.le_cons rfl (St.le_nil _))))) ⟨Nat.zero_le _, fun j h => by omega⟩ fun i hi => ?_
  apply WPA.seq
  apply WPA.region
  · apply Trace.pu [] (.cmp (.plain rfl) (.plain rfl) rfl)
    exact .nil _
  · exact keepOK_of hk hn rfl
  apply WPA.seq
  refine WPA.cond rfl (fun hc1 => ?_) (fun hc1 => ?_)
  · have hlt : i < l.length := by simpa using hc1
    apply WPA.skip
    apply WPA.seq
    apply WPA.block
    apply WPA.seq
    apply WPA.region
    · apply Trace.pu [] (.move (.plain rfl))
      apply Trace.pu [] (.assign (.plain rfl))
      exact .nil _
    · exact keepOK_of hk hn rfl
    apply WPA.seq
    apply WPA.region
    · apply Trace.pu [] (.move (.plain rfl))
      apply Trace.pu [] (.move (.plain rfl))
      apply Trace.pu [] (.move (.plain rfl))
      first | apply Trace.pu [] (.indexRows el22 (.plain rfl) (.plain rfl) (fun _ => ⟨by omega, by omega⟩)) | apply Trace.pu [] (.indexOwn el22 (.plain rfl) (.plain rfl) (fun _ => ⟨by omega, by omega⟩)) | apply Trace.pu [] (.indexSl el22 (.plain rfl) (.plain rfl) (fun _ => ⟨by omega, by omega⟩))
      first | apply Trace.pu [_] (.loadLoc1D ty3 (.plain rfl) rfl rfl) | apply Trace.pu [_] (.loadLoc1 ty3 (.plain rfl) rfl rfl) | apply Trace.pu [] (.loadRp1 ty3 (.plain rfl) rfl) | apply Trace.pu [_] (.loadCol1 ty3 (.plain rfl) rfl rfl rfl (fun _ => by omega))
      apply Trace.cu (callArgs (.plain rfl) (.cons (.plain rfl) .nil)) (hF _) he
      exact .nil _
    · exact keepOK_of hk hn rfl
    refine WPA.cond rfl (fun hc2 => ?_) (fun hc2 => ?_)
    · apply WPA.seq
      apply WPA.region
      · apply Trace.pu [] (.move (.plain rfl))
        apply Trace.pu [] (.assign (.plain rfl))
        exact .nil _
      · exact keepOK_of hk hn rfl
      apply WPA.ret
      refine ⟨.inr rfl, ⟨_, (.cons (.tmp rfl) .nil), ?_⟩, by simp [St.get]⟩
      rw [idxF_hit hlt hc2 hi.2]; rfl
    · apply WPA.skip
      apply WPA.region
      · apply Trace.pu [] (.arith (.plain rfl) (.plain rfl) rfl (fun _ => bd64 (by omega)))
        apply Trace.pu [] (.move (.plain rfl))
        exact .nil _
      · exact keepOK_of hk hn rfl
      exact ⟨i + 1, ⟨by omega, fun j h => by
        by_cases hj : j = i
        · rw [hj]; exact hc2
        · exact hi.2 j (by omega)⟩, by omega, St.le_cons rfl (St.le_cons rfl (St.le_cons rfl (St.le_cons (slI (by omega)) (St.le_nil _))))⟩
  · apply WPA.exit
    apply WPA.seq
    apply WPA.region
    · apply Trace.pu [] (.assign (.plain rfl))
      exact .nil _
    · exact keepOK_of hk hn rfl
    apply WPA.ret
    refine ⟨.inr rfl, ⟨_, (.cons (.tmp rfl) .nil), ?_⟩, by simp [St.get]⟩
    rw [idxF_miss fun j hj => hi.2 j (by
      have : ¬ ((i : Int) < l.length) := by simpa using hc1
      omega)]
    rfl

/-- slices.ContainsFunc[[]int,int] -/
theorem spec36 {p : Int → Bool} {F : FuncId} (hF : ∀ x, FnSpec Try.prog F [iv .i64 x] [] (bv (p x)) [] []) (he : enterOK Try.prog F = true) (l : List Int) (hl : l.length ≤ 4611686018427387904) : FnSpec Try.prog 36 [.d (intsD l), .fn F []] [] (bv (l.any p)) [] [] := by
  refine fnSpec_of (rs := [.tmp 4]) Try.func36 rfl rfl (Nat.le_of_ble_eq_true rfl) (by simp [St.get]) fun E hk hn => ?_
  apply WPA.seq
  apply WPA.region
  · apply Trace.pu [] (.assign (.plain rfl))
    exact .nil _
  · exact keepOK_of hk hn rfl
  apply WPA.seq
  apply WPA.region
  · apply Trace.pu [] (.move (.plain rfl))
    apply Trace.pu [] (.move (.plain rfl))
    apply Trace.cu (callArgs0 (.cons (.plain rfl) (.cons (.plain rfl) .nil))) (spec52 hF he l hl) en52
    apply Trace.pu [] (.cmp (.plain rfl) (.plain rfl) rfl)
    apply Trace.pu [] (.assign (.plain rfl))
    exact .nil _
  · exact keepOK_of hk hn rfl
  apply WPA.ret
  refine ⟨.inr rfl, ⟨_, (.cons (.tmp rfl) .nil), ?_⟩, by simp [St.get]⟩
  rw [← idxF_ge]; rfl

/-- soundpost/plan.Memory$1 -/
theorem spec37 (x : Int) : FnSpec Try.prog 37 [iv .i64 x] [] (bv (!posOk x)) [] [] := by
  refine fnSpec_of (rs := [.tmp 2]) Try.func37 rfl rfl (Nat.le_of_ble_eq_true rfl) (by simp [St.get]) fun E hk hn => ?_
  apply WPA.seq
  apply WPA.region
  · apply Trace.pu [] (.assign (.plain rfl))
    exact .nil _
  · exact keepOK_of hk hn rfl
  apply WPA.seq
  apply WPA.region
  · apply Trace.pu [] (.move (.plain rfl))
    apply Trace.pu [] (.cmp (.plain rfl) (.plain rfl) rfl)
    apply Trace.pu [] (.move (.plain rfl))
    apply Trace.pg [] rfl (.move (.plain rfl))
    apply Trace.pg [] rfl (.cmp (.gd rfl (fun h => h)) (.plain rfl) rfl)
    apply Trace.pu [] (.pick (.plain rfl) (.plain rfl) (.gd rfl (by simp)))
    apply Trace.pu [] (.assign (.plain rfl))
    exact .nil _
  · exact keepOK_of hk hn rfl
  apply WPA.ret
  refine ⟨.inr rfl, ⟨_, (.cons (.tmp rfl) .nil), ?_⟩, by simp [St.get]⟩
  have e : (!posOk x) = (bif decide (x < 0) then true else decide (1099511627776 < x)) := by
    rw [bif_or]; unfold posOk
    by_cases h1 : x < 0 <;> by_cases h2 : 1099511627776 < x <;> simp [h1, h2] <;> omega
  rw [e]; rfl

/-- soundpost/plan.Memory$2 -/
theorem spec39 (x : Int) : FnSpec Try.prog 39 [iv .i64 x] [] (bv (decide (x < 0))) [] [] := by
  refine fnSpec_of (rs := [.tmp 2]) Try.func39 rfl rfl (Nat.le_of_ble_eq_true rfl) (by simp [St.get]) fun E hk hn => ?_
  apply WPA.seq
  apply WPA.region
  · apply Trace.pu [] (.assign (.plain rfl))
    exact .nil _
  · exact keepOK_of hk hn rfl
  apply WPA.seq
  apply WPA.region
  · apply Trace.pu [] (.move (.plain rfl))
    apply Trace.pu [] (.cmp (.plain rfl) (.plain rfl) rfl)
    apply Trace.pu [] (.assign (.plain rfl))
    exact .nil _
  · exact keepOK_of hk hn rfl
  apply WPA.ret
  refine ⟨.inr rfl, ⟨_, (.cons (.tmp rfl) .nil), ?_⟩, by simp [St.get]⟩
  rfl

/-- slices.Clone[[]int,int] -/
theorem cloneNe (l : List Int) (h0 : 0 < l.length) (hl : l.length ≤ 17592186044416) : FnSpec Try.prog 38 [.d (intsD l)] [] (.d (intsD l)) [] [] := by
  refine fnSpec_of (rs := [.tmp 2]) Try.func38 rfl rfl (Nat.le_of_ble_eq_true rfl) (by simp [St.get]) fun E hk hn => ?_
  apply WPA.seq
  apply WPA.region
  · apply Trace.pu [] (.assign (.plain rfl))
    exact .nil _
  · exact keepOK_of hk hn rfl
  apply WPA.seq
  apply WPA.seq
  apply WPA.region
  · apply Trace.pu [] (.move (.plain rfl))
    apply Trace.pu [] (.eqNilRows h0 Try.underlying22 (.plain rfl) (.plain rfl))
    exact .nil _
  · exact keepOK_of hk hn rfl
  refine WPA.cond rfl (fun hc1 => ?_) (fun hc1 => ?_)
  · cases hc1
  · apply WPA.skip
    apply WPA.seq
    apply WPA.region
    · apply Trace.buildSlice 5 [] so22 zo3 rfl (by decide) (by decide) (.nil _ _) rfl rfl rfl
      apply Trace.pu [] (.move (.plain rfl))
      apply Trace.append 7 [bk 5, sl 5] ap22 kd22 (by decide) (.own (.plain rfl) rfl) (.rows (cs := [.ints .i64 l]) (.plain rfl) rfl (by simp [Col.len]) (by intros; rfl)) (Col.ones rfl) (labs_ok rfl) (by omega) (by omega) rfl rfl
      apply Trace.pu [] (.assign (.plain rfl))
      exact .nil _
    · exact keepOK_of hk hn rfl
    refine WPA.ghost (Ghost.dsInts (l := 7) (k := .i64) (xs := l) rfl (by rfl)) ?_
    refine WPA.ghost (Ghost.freezeAs (t := 2) (l := 7) (g := fun k => [Col.at (.ints .i64 l) k]) (by rfl) rfl (fun k hk => rfl)) ?_
    apply WPA.ret
    refine ⟨.inr rfl, ⟨_, (.cons (.tmp rfl) .nil), ?_⟩, by simp [St.get]⟩
    rw [show (intsD l) = rowsD 1 (0 + l.length) [.ints .i64 l] by rw [show 0 + l.length = l.length by omega]]
    rfl

/-- slices.Clone[[]int,int] -/
theorem cloneE (a : Option Addr) (cap : Nat) : FnSpec Try.prog 38 [.d (.v (.slice a 0 cap))] [] (.d (intsD [])) [] [] := by
  refine fnSpec_of (rs := [.tmp 2]) Try.func38 rfl rfl (Nat.le_of_ble_eq_true rfl) (by simp [St.get]) fun E hk hn => ?_
  apply WPA.seq
  apply WPA.region
  · apply Trace.pu [] (.assign (.plain rfl))
    exact .nil _
  · exact keepOK_of hk hn rfl
  apply WPA.seq
  apply WPA.seq
  apply WPA.region
  · apply Trace.pu [] (.move (.plain rfl))
    apply Trace.pu [] (.eqNilV Try.underlying22 (.plain rfl) (.plain rfl))
    exact .nil _
  · exact keepOK_of hk hn rfl
  refine WPA.cond rfl (fun hc1 => ?_) (fun hc1 => ?_)
  · apply WPA.seq
    apply WPA.region
    · apply Trace.pu [] (.assign (.plain rfl))
      exact .nil _
    · exact keepOK_of hk hn rfl
    refine WPA.ghost (Ghost.slot (t := 2) (x := .d (.v (.slice none 0 0))) (y := .d (intsD [])) rfl den_emp) ?_
    apply WPA.ret
    refine ⟨.inr rfl, ⟨_, (.cons (.tmp rfl) .nil), ?_⟩, by simp [St.get]⟩
    rfl
  · apply WPA.skip
    apply WPA.seq
    refine WPA.ghost (Ghost.slot (t := 0) (x := .d (.v (.slice a 0 cap))) (y := .d (intsD [])) rfl den_emp) ?_
    apply WPA.region
    · apply Trace.buildSlice 5 [] so22 zo3 rfl (by decide) (by decide) (.nil _ _) rfl rfl rfl
      apply Trace.pu [] (.move (.plain rfl))
      apply Trace.append 7 [bk 5, sl 5] ap22 kd22 (by decide) (.own (.plain rfl) rfl) (.rows (cs := [.ints .i64 []]) (.plain rfl) rfl (by simp [Col.len]) (by intros; rfl)) (Col.ones rfl) (labs_ok rfl) (by simp) (by simp) rfl rfl
      apply Trace.pu [] (.assign (.plain rfl))
      exact .nil _
    · exact keepOK_of hk hn rfl
    refine WPA.ghost (Ghost.dsInts (l := 7) (k := .i64) (xs := []) rfl (by rfl)) ?_
    refine WPA.ghost (Ghost.freezeAs (t := 2) (l := 7) (g := fun k => [Col.at (.ints .i64 []) k]) (by rfl) rfl (fun k hk => rfl)) ?_
    apply WPA.ret
    refine ⟨.inr rfl, ⟨_, (.cons (.tmp rfl) .nil), ?_⟩, by simp [St.get]⟩
    rfl

theorem spec38 (l : List Int) (hl : l.length ≤ 17592186044416) : FnSpec Try.prog 38 [.d (intsD l)] [] (.d (intsD l)) [] [] := by
  by_cases h0 : 0 < l.length
  · exact cloneNe l h0 hl
  · have e : l = [] := by cases l with
      | nil => rfl
      | cons => simp at h0
    subst e
    exact FnSpec.argNil (A1 := []) (A2 := []) cloneE
theorem check_formed {g : Gr} (h : g.check = 0) : g.formed = 0 := by
  unfold Gr.check at h
  split at h
  · omega
  · exact h
theorem check_short {g : Gr} (h : g.check = 0) : g.short = false := by
  have hf := check_formed h
  unfold Gr.check at h
  split at h
  · omega
  · rename_i h1
    simpa [Gr.looped, hf] using h1
theorem check_of {g : Gr} (h : g.OK) (hs : g.short = false) : g.check = 0 := by
  unfold Gr.check
  rw [if_neg (by simp [Gr.looped, hs]), Gr.formed_of h]
theorem withDs {g : Gr} (hok : g.OK) {at_ : List Int} (hat : AtOK g at_) : FnSpec Try.prog 63 [g.av, .own 21 (0 + at_.length)] [(bk 21, .blk (.app 1 (0 + at_.length) (joined (colsFrom 1 0 []) [.ints .i64 at_])))] (.d (g.planOf at_).d) [] [] := by
  have h := FnSpec.thaw (A1 := [g.av]) (A2 := []) (l := 21) (n := 1) (len := at_.length) (cols := joined (colsFrom 1 0 []) [.ints .i64 at_]) (spec63 hok hat) (fun i hi => by
    show [Col.at (.ds ([] ++ at_.map fun m => .v (.int .i64 m))) i] = [Col.at (.ints .i64 at_) i]
    simp only [Col.at, List.nil_append]
    rw [getD_map' _ _ 0 _ hi]) rfl
  rw [show 0 + at_.length = at_.length by omega]
  exact h
/-- soundpost/plan.Memory -/
theorem spec18 (g : Gr) (hz : g.Sz) (at_ : List Int) (ha : at_.length ≤ 17592186044416) : FnSpec Try.prog 18 [g.av, .d (intsD at_)] [] (.tup [.d (g.memory at_).1.d, iv .i64 (g.memory at_).2]) [] [] := by
  have hn1 := hz.n
  have hn2 := hz.m
  refine fnSpec_of (rs := [.cell 4 28, .tmp 5]) Try.func18 rfl rfl (Nat.le_of_ble_eq_true rfl) (by simp [St.get]) fun E hk hn => ?_
  apply WPA.seq
  apply WPA.region
  · first | apply Trace.boxD 2 [] (.plain rfl) rfl rfl | apply Trace.box 2 [] (.plain rfl) rfl rfl rfl
    apply Trace.alloc 4 [] (.data _) zo28 (cellsAs_data _) rfl
    apply Trace.pu [] (.assign (.plain rfl))
    exact .nil _
  · exact keepOK_of hk hn rfl
  apply WPA.seq
  apply WPA.seq
  apply WPA.region
  · first | apply Trace.pu [_] (.loadAllD ty25 (.plain rfl) rfl (by simp)) | apply Trace.pu [_] (.loadLocD ty25 (.plain rfl) rfl (fun _ => by simp)) | apply Trace.pu [_] (.loadLoc ty25 (.plain rfl) rfl (fun _ => Nat.le_of_ble_eq_true rfl)) | apply Trace.pu [] (.loadRp ty25 (.plain rfl) (fun _ => by decide)) | apply Trace.pu [] (.loadRp ty25 (.plain rfl) (fun _ => Nat.le_of_ble_eq_true rfl)) | apply Trace.pu [_] (.loadCol ty25 (.plain rfl) rfl rfl (fun _ => by decide) (fun _ => by omega)) | apply Trace.pu [_] (.loadArr ty25 (.plain rfl) rfl)
    apply Trace.cu (callArgs0 (.cons (.plain rfl) .nil)) (spec26 g hz) en26
    apply Trace.pu [] (.assign (.plain rfl))
    exact .nil _
  · exact keepOK_of hk hn rfl
  apply WPA.seq
  apply WPA.region
  · apply Trace.pu [] (.move (.plain rfl))
    apply Trace.pu [] (.cmp (.plain rfl) (.plain rfl) rfl)
    exact .nil _
  · exact keepOK_of hk hn rfl
  refine WPA.cond rfl (fun hc1 => ?_) (fun hc1 => ?_)
  · have hC : g.check ≠ 0 := by simpa using hc1
    have hM : g.memory at_ = (Pl.none, g.check) := by unfold Gr.memory; rw [if_pos hC]
    apply WPA.seq
    apply WPA.region
    · apply Trace.pu [] (.build zo28 pl28 (.nil _ _) rfl)
      apply Trace.pu [] (.move (.plain rfl))
      first | apply Trace.storeD ty28 (.plain rfl) (.plain rfl) rfl rfl (by simp) (by simp [AV.oneB, single, intsD, rowsD]) (by simp) (spliceL_all (by simp)) | apply Trace.storeD ty28 (.plain rfl) (.plain rfl) rfl rfl (by simp) (by simp [AV.oneB, single, intsD, rowsD]) (by simp) rfl | apply Trace.storeDA ty28 (.plain rfl) (.plain rfl) rfl rfl (by simp) (by simp [AV.oneB, single]) (by simp) rfl | apply Trace.storeLoc ty28 (.plain rfl) (.plain rfl) rfl rfl (by simp) (by simp [AV.oneB, single]) (by simp) rfl | apply Trace.storeRow ty28 (.plain rfl) (.plain rfl) rfl rfl rfl rfl (by decide) (by simp [AV.oneB, single]) rfl (by omega)
      apply Trace.pu [] (.assign (.plain rfl))
      exact .nil _
    · exact keepOK_of hk hn rfl
    refine WPA.ghost (Ghost.dataLe (l := 4) rfl (.rows (n := 1) (g := fun i => [Col.at (.ints .i64 []) i]) (.rows (n := 1) (g := fun i => [Col.at (.ints .i64 []) i]) (.same .nil)))) ?_
    apply WPA.ret
    refine ⟨.inr rfl, ⟨_, (.cons (.cellD rfl rfl ty28 rfl) (.cons (.tmp rfl) .nil)), ?_⟩, by simp [St.get]⟩
    rw [hM]; rfl
  · have hC : g.check = 0 := by simpa using hc1
    have hok := g.ok_of (check_formed hC)
    apply WPA.skip
    apply WPA.seq
    apply WPA.seq
    apply WPA.region
    · apply Trace.pu [] (.move (.plain rfl))
      apply Trace.pu [] (.len rfl Try.underlying22 (.plain rfl) rfl)
      apply Trace.pu [] (.fieldAddr fl25_0 (.plain rfl) rfl)
      first | apply Trace.pu [_] (.loadLoc1D ty22 (.plain rfl) rfl rfl) | apply Trace.pu [_] (.loadLoc1 ty22 (.plain rfl) rfl rfl) | apply Trace.pu [] (.loadRp1 ty22 (.plain rfl) rfl) | apply Trace.pu [_] (.loadCol1 ty22 (.plain rfl) rfl rfl rfl (fun _ => by omega))
      apply Trace.pu [] (.len rfl Try.underlying22 (.plain rfl) rfl)
      apply Trace.pu [] (.cmp (.plain rfl) (.plain rfl) rfl)
      apply Trace.pu [] (.move (.plain rfl))
      apply Trace.pg [] rfl (.move (.plain rfl))
      apply Trace.cg rfl (callArgs0 (.cons (.gd rfl (fun h => h)) (.cons (.plain rfl) .nil))) (fun h => spec36 spec37 en37 at_ (by omega)) en36
      apply Trace.pu [] (.pick (.plain rfl) (.plain rfl) (.gd rfl (by simp)))
      exact .nil _
    · exact keepOK_of hk hn rfl
    refine WPA.cond rfl (fun hc2 => ?_) (fun hc2 => ?_)
    · have hM : g.memory at_ = (Pl.none, 230) := by
        have h9 : (bif !decide ((at_.length : Int) = g.lat.length) then true else at_.any fun x => !posOk x) = true := hc2
        rw [bif_or, Bool.or_eq_true, Bool.not_eq_true', decide_eq_false_iff_not] at h9
        unfold Gr.memory
        rw [if_neg (by rw [hC]; decide), if_neg]
        unfold Gr.posB
        rw [Bool.and_eq_true, Bool.and_eq_true, decide_eq_true_eq]
        rintro ⟨h1, h2, _⟩
        rcases h9 with h9 | h9
        · omega
        · obtain ⟨x, hx, h3⟩ := List.any_eq_true.1 h9
          rw [List.all_eq_true.1 h2 x hx] at h3; cases h3
      apply WPA.seq
      apply WPA.region
      · apply Trace.pu [] (.build zo28 pl28 (.nil _ _) rfl)
        first | apply Trace.storeD ty28 (.plain rfl) (.plain rfl) rfl rfl (by simp) (by simp [AV.oneB, single, intsD, rowsD]) (by simp) (spliceL_all (by simp)) | apply Trace.storeD ty28 (.plain rfl) (.plain rfl) rfl rfl (by simp) (by simp [AV.oneB, single, intsD, rowsD]) (by simp) rfl | apply Trace.storeDA ty28 (.plain rfl) (.plain rfl) rfl rfl (by simp) (by simp [AV.oneB, single]) (by simp) rfl | apply Trace.storeLoc ty28 (.plain rfl) (.plain rfl) rfl rfl (by simp) (by simp [AV.oneB, single]) (by simp) rfl | apply Trace.storeRow ty28 (.plain rfl) (.plain rfl) rfl rfl rfl rfl (by decide) (by simp [AV.oneB, single]) rfl (by omega)
        apply Trace.pu [] (.assign (.plain rfl))
        exact .nil _
      · exact keepOK_of hk hn rfl
      refine WPA.ghost (Ghost.dataLe (l := 4) rfl (.rows (n := 1) (g := fun i => [Col.at (.ints .i64 []) i]) (.rows (n := 1) (g := fun i => [Col.at (.ints .i64 []) i]) (.same .nil)))) ?_
      apply WPA.ret
      refine ⟨.inr rfl, ⟨_, (.cons (.cellD rfl rfl ty28 rfl) (.cons (.tmp rfl) .nil)), ?_⟩, by simp [St.get]⟩
      rw [hM]; rfl
    · obtain ⟨hl, hall⟩ : at_.length = g.lat.length ∧ at_.all posOk = true := by
        have h9 : (bif !decide ((at_.length : Int) = g.lat.length) then true else at_.any fun x => !posOk x) = false := hc2
        rw [bif_or, Bool.or_eq_false_iff, Bool.not_eq_false', decide_eq_true_eq] at h9
        refine ⟨by omega, List.all_eq_true.2 fun x hx => ?_⟩
        have := List.any_eq_false.1 h9.2 x hx
        simpa using this
      have hat := atOK_of hl hall
      have hdl : (g.delTo at_ g.es.length).length = g.es.length := by simp [Gr.delTo]
      have hmm := hok.m
      apply WPA.skip
      apply WPA.seq
      apply WPA.draw mixed
      · apply Trace.pu [] (.move (.plain rfl))
        apply Trace.cu (callArgs0 (.cons (.plain rfl) .nil)) (spec38 at_ ha) en38
        first | apply Trace.pu [_] (.loadAllD ty25 (.plain rfl) rfl (by simp)) | apply Trace.pu [_] (.loadLocD ty25 (.plain rfl) rfl (fun _ => by simp)) | apply Trace.pu [_] (.loadLoc ty25 (.plain rfl) rfl (fun _ => Nat.le_of_ble_eq_true rfl)) | apply Trace.pu [] (.loadRp ty25 (.plain rfl) (fun _ => by decide)) | apply Trace.pu [] (.loadRp ty25 (.plain rfl) (fun _ => Nat.le_of_ble_eq_true rfl)) | apply Trace.pu [_] (.loadCol ty25 (.plain rfl) rfl rfl (fun _ => by decide) (fun _ => by omega)) | apply Trace.pu [_] (.loadArr ty25 (.plain rfl) rfl)
        apply Trace.cu (callArgs0 (.cons (.plain rfl) (.cons (.plain rfl) .nil))) (spec28 hok hat) en28
        first | apply Trace.storeD ty28 (.plain rfl) (.plain rfl) rfl rfl (by simp) (by simp [AV.oneB, single, intsD, rowsD]) (by simp) (spliceL_all (by simp)) | apply Trace.storeD ty28 (.plain rfl) (.plain rfl) rfl rfl (by simp) (by simp [AV.oneB, single, intsD, rowsD]) (by simp) rfl | apply Trace.storeDA ty28 (.plain rfl) (.plain rfl) rfl rfl (by simp) (by simp [AV.oneB, single]) (by simp) rfl | apply Trace.storeLoc ty28 (.plain rfl) (.plain rfl) rfl rfl (by simp) (by simp [AV.oneB, single]) (by simp) rfl | apply Trace.storeRow ty28 (.plain rfl) (.plain rfl) rfl rfl rfl rfl (by decide) (by simp [AV.oneB, single]) rfl (by omega)
        exact .nil _
      · rfl
      · exact keepOK_of hk hn rfl
      apply WPA.seq
      apply WPA.seq
      apply WPA.region
      · apply Trace.pu [] (.fieldAddr fl28_1 (.plain rfl) rfl)
        first | apply Trace.pu [_] (.loadLoc1D ty22 (.plain rfl) rfl rfl) | apply Trace.pu [_] (.loadLoc1 ty22 (.plain rfl) rfl rfl) | apply Trace.pu [] (.loadRp1 ty22 (.plain rfl) rfl) | apply Trace.pu [_] (.loadCol1 ty22 (.plain rfl) rfl rfl rfl (fun _ => by omega))
        apply Trace.cu (callArgs0 (.cons (.plain rfl) (.cons (.plain rfl) .nil))) (spec36 spec39 en39 (g.delTo at_ g.es.length) (by omega)) en36
        exact .nil _
      · exact keepOK_of hk hn rfl
      refine WPA.cond rfl (fun hc3 => ?_) (fun hc3 => ?_)
      · have hM : g.memory at_ = (Pl.none, 230) := by
          unfold Gr.memory
          rw [if_neg (by rw [hC]; decide), if_neg]
          unfold Gr.posB
          rw [Bool.and_eq_true, Bool.and_eq_true]
          rintro ⟨_, _, h2⟩
          have hc3 : (g.delTo at_ g.es.length).any (fun x => decide (x < 0)) = true := hc3
          obtain ⟨x, hx, h3⟩ := List.any_eq_true.1 hc3
          obtain ⟨i, hi, rfl⟩ := List.mem_map.1 hx
          have h4 := List.all_eq_true.1 h2 i hi
          simp only [decide_eq_true_eq] at h3 h4
          omega
        apply WPA.seq
        apply WPA.region
        · apply Trace.pu [] (.build zo28 pl28 (.nil _ _) rfl)
          first | apply Trace.storeD ty28 (.plain rfl) (.plain rfl) rfl rfl (by simp) (by simp [AV.oneB, single, intsD, rowsD]) (by simp) (spliceL_all (by simp)) | apply Trace.storeD ty28 (.plain rfl) (.plain rfl) rfl rfl (by simp) (by simp [AV.oneB, single, intsD, rowsD]) (by simp) rfl | apply Trace.storeDA ty28 (.plain rfl) (.plain rfl) rfl rfl (by simp) (by simp [AV.oneB, single]) (by simp) rfl | apply Trace.storeLoc ty28 (.plain rfl) (.plain rfl) rfl rfl (by simp) (by simp [AV.oneB, single]) (by simp) rfl | apply Trace.storeRow ty28 (.plain rfl) (.plain rfl) rfl rfl rfl rfl (by decide) (by simp [AV.oneB, single]) rfl (by omega)
          apply Trace.pu [] (.assign (.plain rfl))
          exact .nil _
        · exact keepOK_of hk hn rfl
        refine WPA.ghost (Ghost.dataLe (l := 4) rfl (.rows (n := 1) (g := fun i => [Col.at (.ints .i64 []) i]) (.rows (n := 1) (g := fun i => [Col.at (.ints .i64 []) i]) (.same .nil)))) ?_
        apply WPA.ret
        refine ⟨.inr rfl, ⟨_, (.cons (.cellD rfl rfl ty28 rfl) (.cons (.tmp rfl) .nil)), ?_⟩, by simp [St.get]⟩
        rw [hM]; rfl
      · apply WPA.skip
        apply WPA.seq
        apply WPA.region
        · first | apply Trace.pu [_] (.loadAllD ty28 (.plain rfl) rfl (by simp)) | apply Trace.pu [_] (.loadLocD ty28 (.plain rfl) rfl (fun _ => by simp)) | apply Trace.pu [_] (.loadLoc ty28 (.plain rfl) rfl (fun _ => Nat.le_of_ble_eq_true rfl)) | apply Trace.pu [] (.loadRp ty28 (.plain rfl) (fun _ => by decide)) | apply Trace.pu [] (.loadRp ty28 (.plain rfl) (fun _ => Nat.le_of_ble_eq_true rfl)) | apply Trace.pu [_] (.loadCol ty28 (.plain rfl) rfl rfl (fun _ => by decide) (fun _ => by omega)) | apply Trace.pu [_] (.loadArr ty28 (.plain rfl) rfl)
          first | apply Trace.storeD ty28 (.plain rfl) (.plain rfl) rfl rfl (by simp) (by simp [AV.oneB, single, intsD, rowsD]) (by simp) (spliceL_all (by simp)) | apply Trace.storeD ty28 (.plain rfl) (.plain rfl) rfl rfl (by simp) (by simp [AV.oneB, single, intsD, rowsD]) (by simp) rfl | apply Trace.storeDA ty28 (.plain rfl) (.plain rfl) rfl rfl (by simp) (by simp [AV.oneB, single]) (by simp) rfl | apply Trace.storeLoc ty28 (.plain rfl) (.plain rfl) rfl rfl (by simp) (by simp [AV.oneB, single]) (by simp) rfl | apply Trace.storeRow ty28 (.plain rfl) (.plain rfl) rfl rfl rfl rfl (by decide) (by simp [AV.oneB, single]) rfl (by omega)
          apply Trace.pu [] (.assign (.plain rfl))
          exact .nil _
        · exact keepOK_of hk hn rfl
        apply WPA.ret
        refine ⟨.inr rfl, ⟨_, (.cons (.cellD rfl rfl ty28 rfl) (.cons (.tmp rfl) .nil)), ?_⟩, by simp [St.get]⟩
        have hM : g.memory at_ = (g.planOf at_, 0) := by
          unfold Gr.memory
          rw [if_neg (by rw [hC]; decide), if_pos]
          unfold Gr.posB
          rw [decide_eq_true hl, hall, List.all_eq_true.2 fun i hi => ?_]
          · rfl
          · have hc3 : (g.delTo at_ g.es.length).any (fun x => decide (x < 0)) = false := hc3
            have := List.any_eq_false.1 hc3 (g.sl (fn at_) i) (List.mem_map.2 ⟨i, hi, rfl⟩)
            simpa using this
        rw [hM]; rfl

/-- soundpost/soundpostref23.Memory -/
theorem spec53 (g : Gr) (hz : g.Sz) (at_ : List Int) (ha : at_.length ≤ 17592186044416) : FnSpec Try.prog 53 [g.av, .d (intsD at_)] [] (.tup [.d (g.memory at_).1.d, iv .i64 (g.memory at_).2]) [] [] := by
  have hn1 := hz.n
  have hn2 := hz.m
  refine fnSpec_of (rs := [.cell 4 28, .tmp 5]) Try.func53 rfl rfl (Nat.le_of_ble_eq_true rfl) (by simp [St.get]) fun E hk hn => ?_
  apply WPA.seq
  apply WPA.region
  · first | apply Trace.boxD 2 [] (.plain rfl) rfl rfl | apply Trace.box 2 [] (.plain rfl) rfl rfl rfl
    apply Trace.alloc 4 [] (.data _) zo28 (cellsAs_data _) rfl
    apply Trace.pu [] (.assign (.plain rfl))
    exact .nil _
  · exact keepOK_of hk hn rfl
  apply WPA.seq
  apply WPA.region
  · first | apply Trace.pu [_] (.loadAllD ty25 (.plain rfl) rfl (by simp)) | apply Trace.pu [_] (.loadLocD ty25 (.plain rfl) rfl (fun _ => by simp)) | apply Trace.pu [_] (.loadLoc ty25 (.plain rfl) rfl (fun _ => Nat.le_of_ble_eq_true rfl)) | apply Trace.pu [] (.loadRp ty25 (.plain rfl) (fun _ => by decide)) | apply Trace.pu [] (.loadRp ty25 (.plain rfl) (fun _ => Nat.le_of_ble_eq_true rfl)) | apply Trace.pu [_] (.loadCol ty25 (.plain rfl) rfl rfl (fun _ => by decide) (fun _ => by omega)) | apply Trace.pu [_] (.loadArr ty25 (.plain rfl) rfl)
    apply Trace.cu (callArgs0 (.cons (.plain rfl) .nil)) (spec13 g hz) en13
    apply Trace.pu [] (.assign (.plain rfl))
    exact .nil _
  · exact keepOK_of hk hn rfl
  apply WPA.seq
  apply WPA.seq
  apply WPA.region
  · apply Trace.pu [] (.move (.plain rfl))
    apply Trace.pu [] (.cmp (.plain rfl) (.plain rfl) rfl)
    exact .nil _
  · exact keepOK_of hk hn rfl
  refine WPA.cond rfl (fun hc1 => ?_) (fun hc1 => ?_)
  · have hC : g.check ≠ 0 := by simpa using hc1
    have hM : g.memory at_ = (Pl.none, g.check) := by unfold Gr.memory; rw [if_pos hC]
    apply WPA.seq
    apply WPA.region
    · apply Trace.pu [] (.build zo28 pl28 (.nil _ _) rfl)
      apply Trace.pu [] (.move (.plain rfl))
      first | apply Trace.storeD ty28 (.plain rfl) (.plain rfl) rfl rfl (by simp) (by simp [AV.oneB, single, intsD, rowsD]) (by simp) (spliceL_all (by simp)) | apply Trace.storeD ty28 (.plain rfl) (.plain rfl) rfl rfl (by simp) (by simp [AV.oneB, single, intsD, rowsD]) (by simp) rfl | apply Trace.storeDA ty28 (.plain rfl) (.plain rfl) rfl rfl (by simp) (by simp [AV.oneB, single]) (by simp) rfl | apply Trace.storeLoc ty28 (.plain rfl) (.plain rfl) rfl rfl (by simp) (by simp [AV.oneB, single]) (by simp) rfl | apply Trace.storeRow ty28 (.plain rfl) (.plain rfl) rfl rfl rfl rfl (by decide) (by simp [AV.oneB, single]) rfl (by omega)
      apply Trace.pu [] (.assign (.plain rfl))
      exact .nil _
    · exact keepOK_of hk hn rfl
    refine WPA.ghost (Ghost.dataLe (l := 4) rfl (.rows (n := 1) (g := fun i => [Col.at (.ints .i64 []) i]) (.rows (n := 1) (g := fun i => [Col.at (.ints .i64 []) i]) (.same .nil)))) ?_
    apply WPA.ret
    refine ⟨.inr rfl, ⟨_, (.cons (.cellD rfl rfl ty28 rfl) (.cons (.tmp rfl) .nil)), ?_⟩, by simp [St.get]⟩
    rw [hM]; rfl
  · have hC : g.check = 0 := by simpa using hc1
    have hok := g.ok_of (check_formed hC)
    apply WPA.skip
    apply WPA.seq
    apply WPA.seq
    apply WPA.region
    · first | apply Trace.pu [_] (.loadAllD ty25 (.plain rfl) rfl (by simp)) | apply Trace.pu [_] (.loadLocD ty25 (.plain rfl) rfl (fun _ => by simp)) | apply Trace.pu [_] (.loadLoc ty25 (.plain rfl) rfl (fun _ => Nat.le_of_ble_eq_true rfl)) | apply Trace.pu [] (.loadRp ty25 (.plain rfl) (fun _ => by decide)) | apply Trace.pu [] (.loadRp ty25 (.plain rfl) (fun _ => Nat.le_of_ble_eq_true rfl)) | apply Trace.pu [_] (.loadCol ty25 (.plain rfl) rfl rfl (fun _ => by decide) (fun _ => by omega)) | apply Trace.pu [_] (.loadArr ty25 (.plain rfl) rfl)
      apply Trace.pu [] (.move (.plain rfl))
      apply Trace.cu (callArgs0 (.cons (.plain rfl) (.cons (.plain rfl) .nil))) (spec62 hok at_ (by omega)) en62
      apply Trace.pu [] (.not (.plain rfl))
      exact .nil _
    · exact keepOK_of hk hn rfl
    refine WPA.cond rfl (fun hc2 => ?_) (fun hc2 => ?_)
    · apply WPA.seq
      apply WPA.region
      · apply Trace.pu [] (.build zo28 pl28 (.nil _ _) rfl)
        first | apply Trace.storeD ty28 (.plain rfl) (.plain rfl) rfl rfl (by simp) (by simp [AV.oneB, single, intsD, rowsD]) (by simp) (spliceL_all (by simp)) | apply Trace.storeD ty28 (.plain rfl) (.plain rfl) rfl rfl (by simp) (by simp [AV.oneB, single, intsD, rowsD]) (by simp) rfl | apply Trace.storeDA ty28 (.plain rfl) (.plain rfl) rfl rfl (by simp) (by simp [AV.oneB, single]) (by simp) rfl | apply Trace.storeLoc ty28 (.plain rfl) (.plain rfl) rfl rfl (by simp) (by simp [AV.oneB, single]) (by simp) rfl | apply Trace.storeRow ty28 (.plain rfl) (.plain rfl) rfl rfl rfl rfl (by decide) (by simp [AV.oneB, single]) rfl (by omega)
        apply Trace.pu [] (.assign (.plain rfl))
        exact .nil _
      · exact keepOK_of hk hn rfl
      refine WPA.ghost (Ghost.dataLe (l := 4) rfl (.rows (n := 1) (g := fun i => [Col.at (.ints .i64 []) i]) (.rows (n := 1) (g := fun i => [Col.at (.ints .i64 []) i]) (.same .nil)))) ?_
      apply WPA.ret
      refine ⟨.inr rfl, ⟨_, (.cons (.cellD rfl rfl ty28 rfl) (.cons (.tmp rfl) .nil)), ?_⟩, by simp [St.get]⟩
      have hp : ¬ g.posB at_ = true := by simpa using hc2
      have hM : g.memory at_ = (Pl.none, 230) := by unfold Gr.memory; rw [if_neg (by rw [hC]; decide), if_neg hp]
      rw [hM]; rfl
    · have hp : g.posB at_ = true := by simpa using hc2
      have hM : g.memory at_ = (g.planOf at_, 0) := by unfold Gr.memory; rw [if_neg (by rw [hC]; decide), if_pos hp]
      have hat : AtOK g at_ := by
        unfold Gr.posB at hp
        rw [Bool.and_eq_true, Bool.and_eq_true, decide_eq_true_eq] at hp
        exact atOK_of hp.1 hp.2.1
      apply WPA.skip
      apply WPA.seq
      apply WPA.draw mixed
      · first | apply Trace.pu [_] (.loadAllD ty25 (.plain rfl) rfl (by simp)) | apply Trace.pu [_] (.loadLocD ty25 (.plain rfl) rfl (fun _ => by simp)) | apply Trace.pu [_] (.loadLoc ty25 (.plain rfl) rfl (fun _ => Nat.le_of_ble_eq_true rfl)) | apply Trace.pu [] (.loadRp ty25 (.plain rfl) (fun _ => by decide)) | apply Trace.pu [] (.loadRp ty25 (.plain rfl) (fun _ => Nat.le_of_ble_eq_true rfl)) | apply Trace.pu [_] (.loadCol ty25 (.plain rfl) rfl rfl (fun _ => by decide) (fun _ => by omega)) | apply Trace.pu [_] (.loadArr ty25 (.plain rfl) rfl)
        apply Trace.buildSlice 19 [] so22 zo3 rfl (by decide) (by decide) (.nil _ _) rfl rfl rfl
        apply Trace.pu [] (.move (.plain rfl))
        apply Trace.append 21 [bk 19, sl 19] ap22 kd22 (by decide) (.own (.plain rfl) rfl) (.rows (cs := [.ints .i64 at_]) (.plain rfl) rfl (by simp [Col.len]) (by intros; rfl)) (Col.ones rfl) (labs_ok rfl) (by omega) (by omega) rfl rfl
        apply Trace.cb [] [bk 21, sl 21] (callArgs0 (.cons (.plain rfl) (.cons (.plain rfl) .nil))) (withDs hok hat) en63 (.cons rfl .nil) rfl rfl
        first | apply Trace.storeD ty28 (.plain rfl) (.plain rfl) rfl rfl (by simp) (by simp [AV.oneB, single, intsD, rowsD]) (by simp) (spliceL_all (by simp)) | apply Trace.storeD ty28 (.plain rfl) (.plain rfl) rfl rfl (by simp) (by simp [AV.oneB, single, intsD, rowsD]) (by simp) rfl | apply Trace.storeDA ty28 (.plain rfl) (.plain rfl) rfl rfl (by simp) (by simp [AV.oneB, single]) (by simp) rfl | apply Trace.storeLoc ty28 (.plain rfl) (.plain rfl) rfl rfl (by simp) (by simp [AV.oneB, single]) (by simp) rfl | apply Trace.storeRow ty28 (.plain rfl) (.plain rfl) rfl rfl rfl rfl (by decide) (by simp [AV.oneB, single]) rfl (by omega)
        apply Trace.pu [] (.assign (.plain rfl))
        exact .nil _
      · rfl
      · exact keepOK_of hk hn rfl
      apply WPA.ret
      refine ⟨.inr rfl, ⟨_, (.cons (.cellD rfl rfl ty28 rfl) (.cons (.tmp rfl) .nil)), ?_⟩, by simp [St.get]⟩
      rw [hM]; rfl

end Go.Proofs.Ytcidkahhfdcddaa

