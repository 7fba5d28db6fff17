import Derived.Test.YtglokdfdogmmhaaPkH
import Derived.Test.YtglokdfdogmmhaaPkG
/- Graphs as immutable data. No program in sight. -/
namespace Go.Proofs.Ytglokdfdogmmhaa
open Go
set_option linter.unusedVariables false
set_option linter.unusedSimpArgs false

abbrev intsD (l : List Int) : D := rowsD 1 l.length [.ints .i64 l]
abbrev Edg.ds (e : Edg) : List D := [.v (.int .i64 e.f), .v (.int .i64 e.t), .v (.int .i64 e.w), .v (.int .i64 e.d)]
abbrev edgesD (l : List Edg) : D := .rows 4 l.length fun i => (l.getD i default).ds
abbrev Gr.ds (g : Gr) : List D := [intsD g.lat, edgesD g.es]
abbrev Gr.av (g : Gr) : AV := .d (.agg g.ds)
/-- Within what can be laid in memory. -/
structure Gr.Sz (g : Gr) : Prop where
  n : g.lat.length ≤ 4611686018427387904
  m : g.es.length ≤ 4611686018427387904
  lat : ∀ x ∈ g.lat, -9223372036854775808 ≤ x ∧ x ≤ 9223372036854775807
  es : ∀ e ∈ g.es, (-9223372036854775808 ≤ e.f ∧ e.f ≤ 9223372036854775807) ∧ (-9223372036854775808 ≤ e.t ∧ e.t ≤ 9223372036854775807) ∧ (-9223372036854775808 ≤ e.w ∧ e.w ≤ 9223372036854775807) ∧ -9223372036854775808 ≤ e.d ∧ e.d ≤ 9223372036854775807

end Go.Proofs.Ytglokdfdogmmhaa

/- graph.formed: well-formed graphs. -/
namespace Go.Proofs.Ytglokdfdogmmhaa
open Go
set_option linter.unusedVariables false
set_option linter.unusedSimpArgs false
set_option maxRecDepth 10000

def within (x lo hi : Int) : Bool := bif decide (lo ≤ x) then decide (x ≤ hi) else false
theorem within_eq (x lo hi : Int) : within x lo hi = decide (lo ≤ x ∧ x ≤ hi) := by
  unfold within
  by_cases h : lo ≤ x <;> simp [h]
/-- soundpost/graph.formed$1 -/
theorem spec51 (x lo hi : Int) : FnSpec Try.prog 51 [iv .i64 x, iv .i64 lo, iv .i64 hi] [] (bv (within x lo hi)) [] [] := by
  refine fnSpec_of (rs := [.tmp 6]) Try.func51 rfl rfl (Nat.le_of_ble_eq_true rfl) (by simp [St.get]) fun E hk hn => ?_
  apply WPA.seq
  apply WPA.region
  · apply Trace.pu [] (.assign (.plain rfl))
    exact .nil _
  · exact keepOK_of hk hn rfl
  apply WPA.seq
  apply WPA.region
  · apply Trace.pu [] (.move (.plain rfl))
    apply Trace.pu [] (.move (.plain rfl))
    apply Trace.pu [] (.cmp (.plain rfl) (.plain rfl) rfl)
    apply Trace.pu [] (.move (.plain rfl))
    apply Trace.pg [] rfl (.move (.plain rfl))
    apply Trace.pg [] rfl (.move (.plain rfl))
    apply Trace.pg [] rfl (.cmp (.gd rfl (fun h => h)) (.gd rfl (fun h => h)) rfl)
    apply Trace.pu [] (.pick (.plain rfl) (.gd rfl (by simp)) (.plain rfl))
    apply Trace.pu [] (.assign (.plain rfl))
    exact .nil _
  · exact keepOK_of hk hn rfl
  apply WPA.ret
  refine ⟨.inr rfl, ⟨_, (.cons (.tmp rfl) .nil), ?_⟩, by simp [St.get]⟩
  rfl

/-- soundpost/graph.formed -/
theorem spec38 (g : Gr) (hz : g.Sz) : FnSpec Try.prog 38 [g.av] [] (iv .i64 g.formed) [] [] := by
  have hn1 := hz.n
  have hn2 := hz.m
  refine fnSpec_of (rs := [.tmp 2]) Try.func38 rfl rfl (Nat.le_of_ble_eq_true rfl) (by simp [St.get]) fun E hk hn => ?_
  apply WPA.seq
  apply WPA.region
  · first | apply Trace.boxD 1 [] (.plain rfl) rfl rfl | apply Trace.box 1 [] (.plain rfl) rfl rfl rfl
    apply Trace.pu [] (.assign (.plain rfl))
    exact .nil _
  · exact keepOK_of hk hn rfl
  apply WPA.seq
  apply WPA.region
  · apply Trace.pu [] (.fieldAddr fl25_0 (.plain rfl) rfl)
    first | apply Trace.pu [_] (.loadLoc1D ty22 (.plain rfl) rfl rfl) | apply Trace.pu [_] (.loadLoc1 ty22 (.plain rfl) rfl rfl) | apply Trace.pu [] (.loadRp1 ty22 (.plain rfl) rfl) | apply Trace.pu [_] (.loadCol1 ty22 (.plain rfl) rfl rfl rfl (fun _ => by omega))
    apply Trace.pu [] (.len rfl Try.underlying22 (.plain rfl) rfl)
    apply Trace.pu [] (.assign (.plain rfl))
    exact .nil _
  · exact keepOK_of hk hn rfl
  apply WPA.seq
  apply WPA.seq
  apply WPA.region
  · apply Trace.pu [] (.move (.plain rfl))
    apply Trace.pu [] (.cmp (.plain rfl) (.plain rfl) rfl)
    apply Trace.pu [] (.move (.plain rfl))
    apply Trace.pg [] rfl (.fieldAddr fl25_1 (.plain rfl) rfl)
    first | apply Trace.pg [_] rfl (.loadLoc1D ty23 (.gd rfl (fun h => h)) rfl rfl) | apply Trace.pg [_] rfl (.loadLoc1 ty23 (.gd rfl (fun h => h)) rfl rfl) | apply Trace.pg [] rfl (.loadRp1 ty23 (.gd rfl (fun h => h)) rfl) | apply Trace.pg [_] rfl (.loadCol1 ty23 (.gd rfl (fun h => h)) rfl rfl rfl (fun _ => by omega))
    apply Trace.pg [] rfl (.len rfl Try.underlying23 (.gd rfl (fun h => h)) rfl)
    apply Trace.pg [] rfl (.cmp (.gd rfl (fun h => h)) (.plain rfl) rfl)
    apply Trace.pu [] (.pick (.plain rfl) (.plain rfl) (.gd rfl (by simp)))
    exact .nil _
  · exact keepOK_of hk hn rfl
  refine WPA.cond rfl (fun hc1 => ?_) (fun hc1 => ?_)
  · apply WPA.seq
    apply WPA.region
    · apply Trace.pu [] (.assign (.plain rfl))
      exact .nil _
    · exact keepOK_of hk hn rfl
    apply WPA.ret
    refine ⟨.inr rfl, ⟨_, (.cons (.tmp rfl) .nil), ?_⟩, by simp [St.get]⟩
    have hF : g.formed = 2 := by
      unfold Gr.formed
      rw [if_pos]
      revert hc1
      by_cases h1 : (g.lat.length : Int) > 4096
      · intro _; omega
      · simp [h1]; omega
    rw [hF]; rfl
  · apply WPA.skip
    apply WPA.seq
    apply WPA.region
    · apply Trace.pu [] (.assign (.plain rfl))
      exact .nil _
    · exact keepOK_of hk hn rfl
    apply WPA.seq
    apply WPA.seq
    apply WPA.region
    · apply Trace.pu [] (.fieldAddr fl25_0 (.plain rfl) rfl)
      first | apply Trace.pu [_] (.loadLoc1D ty22 (.plain rfl) rfl rfl) | apply Trace.pu [_] (.loadLoc1 ty22 (.plain rfl) rfl rfl) | apply Trace.pu [] (.loadRp1 ty22 (.plain rfl) rfl) | apply Trace.pu [_] (.loadCol1 ty22 (.plain rfl) rfl rfl rfl (fun _ => by omega))
      apply Trace.pu [] (.len rfl Try.underlying22 (.plain rfl) rfl)
      apply Trace.pu [] (.move (.plain rfl))
      exact .nil _
    · exact keepOK_of hk hn rfl
    apply WPA.block
    refine WPA.loop (σ := Nat) (fun i => [(sl 1, .av (.loc 1 0)), (sl 3, .av (iv .i64 (g.lat.length))), (sl 4, .av (.fn 51 [])), (sl 21, .av (.d (intsD g.lat))), (sl 22, .av (iv .i64 (g.lat.length))), (sl 23, .av (iv .i64 (i))), (bk 1, .blk (.data g.ds))]) (fun i => i ≤ g.lat.length ∧ ∀ j, j < i → latOk (g.lat.getD j 0) = true) (fun i => g.lat.length - i) 0
      (St.le_cons rfl (St.le_cons rfl (St.le_cons rfl (St.le_cons rfl (St.le_cons rfl (St.le_cons rfl (St.le_cons rfl (St.le_nil _)))))))) ⟨Nat.zero_le _, fun j h => by omega⟩ fun i hi => ?_
    apply WPA.seq
    apply WPA.region
    · apply Trace.pu [] (.cmp (.plain rfl) (.plain rfl) rfl)
      exact .nil _
    · exact keepOK_of hk hn rfl
    apply WPA.seq
    refine WPA.cond rfl (fun hc2 => ?_) (fun hc2 => ?_)
    · have hlt : i < g.lat.length := by simpa using hc2
      apply WPA.skip
      apply WPA.seq
      apply WPA.block
      apply WPA.seq
      apply WPA.region
      · first | apply Trace.pu [] (.indexRows el22 (.plain rfl) (.plain rfl) (fun _ => ⟨by omega, by omega⟩)) | apply Trace.pu [] (.indexOwn el22 (.plain rfl) (.plain rfl) (fun _ => ⟨by omega, by omega⟩)) | apply Trace.pu [] (.indexSl el22 (.plain rfl) (.plain rfl) (fun _ => ⟨by omega, by omega⟩))
        first | apply Trace.pu [_] (.loadLoc1D ty3 (.plain rfl) rfl rfl) | apply Trace.pu [_] (.loadLoc1 ty3 (.plain rfl) rfl rfl) | apply Trace.pu [] (.loadRp1 ty3 (.plain rfl) rfl) | apply Trace.pu [_] (.loadCol1 ty3 (.plain rfl) rfl rfl rfl (fun _ => by omega))
        apply Trace.pu [] (.assign (.plain rfl))
        exact .nil _
      · exact keepOK_of hk hn rfl
      apply WPA.seq
      apply WPA.region
      · apply Trace.pu [] (.move (.plain rfl))
        apply Trace.pu [] (.move (.plain rfl))
        apply Trace.cu (callArgs (.plain rfl) (.cons (.plain rfl) (.cons (.plain rfl) (.cons (.plain rfl) .nil)))) (spec51 _ _ _) en51
        apply Trace.pu [] (.not (.plain rfl))
        exact .nil _
      · exact keepOK_of hk hn rfl
      refine WPA.cond rfl (fun hc3 => ?_) (fun hc3 => ?_)
      · apply WPA.seq
        apply WPA.region
        · apply Trace.pu [] (.assign (.plain rfl))
          exact .nil _
        · exact keepOK_of hk hn rfl
        apply WPA.ret
        refine ⟨.inr rfl, ⟨_, (.cons (.tmp rfl) .nil), ?_⟩, by simp [St.get]⟩
        have hnl : ¬ (g.lat.length > 4096 ∨ g.es.length > 16384) := by
          revert hc1
          by_cases h1 : (g.lat.length : Int) > 4096
          · simp [h1]
          · simp [h1]; omega
        have hF : g.formed = 210 := by
          unfold Gr.formed
          rw [if_neg hnl, if_neg]
          simp only [Bool.and_eq_true, List.all_eq_true, not_and]
          intro hA
          have h2 := hA (g.lat.getD i 0) (by rw [getD_lt _ _ hlt]; exact List.getElem_mem hlt)
          simp only [latOk, decide_eq_true_eq] at h2
          simp only [within_eq, Int.toNat_natCast, decide_eq_true h2, Bool.not_true, Bool.false_eq_true] at hc3
        rw [hF]; rfl
      · apply WPA.skip
        apply WPA.region
        · apply Trace.pu [] (.arith (.plain rfl) (.plain rfl) rfl (fun _ => bd64 (by omega)))
          apply Trace.pu [] (.move (.plain rfl))
          exact .nil _
        · exact keepOK_of hk hn rfl
        refine ⟨i + 1, ⟨by omega, fun j h => ?_⟩, by omega, St.le_cons rfl (St.le_cons rfl (St.le_cons rfl (St.le_cons rfl (St.le_cons rfl (St.le_cons rfl (St.le_cons rfl (St.le_nil _)))))))⟩
        by_cases hj : j = i
        · subst hj; simpa [within_eq, latOk] using hc3
        · exact hi.2 j (by omega)
    · have hL : ∀ x ∈ g.lat, latOk x = true := fun x hx => by
        obtain ⟨j, hj, rfl⟩ := List.mem_iff_getElem.1 hx
        have := hi.2 j (by simp at hc2; omega)
        rwa [getD_lt _ _ hj] at this
      apply WPA.exit
      apply WPA.seq
      apply WPA.seq
      apply WPA.region
      · apply Trace.pu [] (.fieldAddr fl25_1 (.plain rfl) rfl)
        first | apply Trace.pu [_] (.loadLoc1D ty23 (.plain rfl) rfl rfl) | apply Trace.pu [_] (.loadLoc1 ty23 (.plain rfl) rfl rfl) | apply Trace.pu [] (.loadRp1 ty23 (.plain rfl) rfl) | apply Trace.pu [_] (.loadCol1 ty23 (.plain rfl) rfl rfl rfl (fun _ => by omega))
        apply Trace.pu [] (.len rfl Try.underlying23 (.plain rfl) rfl)
        apply Trace.pu [] (.move (.plain rfl))
        exact .nil _
      · exact keepOK_of hk hn rfl
      apply WPA.block
      refine WPA.loop (σ := Nat) (fun i => [(sl 1, .av (.loc 1 0)), (sl 3, .av (iv .i64 (g.lat.length))), (sl 4, .av (.fn 51 [])), (sl 33, .av (.d (edgesD g.es))), (sl 34, .av (iv .i64 (g.es.length))), (sl 35, .av (iv .i64 (i))), (bk 1, .blk (.data g.ds))]) (fun i => i ≤ g.es.length ∧ ∀ j, j < i → (g.es.getD j default).ok g.lat.length = true) (fun i => g.es.length - i) 0
        (St.le_cons rfl (St.le_cons rfl (St.le_cons rfl (St.le_cons rfl (St.le_cons rfl (St.le_cons rfl (St.le_cons rfl (St.le_nil _)))))))) ⟨Nat.zero_le _, fun j h => by omega⟩ fun i hi => ?_
      apply WPA.seq
      apply WPA.region
      · apply Trace.pu [] (.cmp (.plain rfl) (.plain rfl) rfl)
        exact .nil _
      · exact keepOK_of hk hn rfl
      apply WPA.seq
      refine WPA.cond rfl (fun hc4 => ?_) (fun hc4 => ?_)
      · have hlt2 : i < g.es.length := by simpa using hc4
        apply WPA.skip
        apply WPA.seq
        apply WPA.block
        apply WPA.seq
        apply WPA.region
        · first | apply Trace.pu [] (.indexRows el23 (.plain rfl) (.plain rfl) (fun _ => ⟨by omega, by omega⟩)) | apply Trace.pu [] (.indexOwn el23 (.plain rfl) (.plain rfl) (fun _ => ⟨by omega, by omega⟩)) | apply Trace.pu [] (.indexSl el23 (.plain rfl) (.plain rfl) (fun _ => ⟨by omega, by omega⟩))
          first | apply Trace.pu [_] (.loadAllD ty43 (.plain rfl) rfl (by simp)) | apply Trace.pu [_] (.loadLocD ty43 (.plain rfl) rfl (fun _ => by simp)) | apply Trace.pu [_] (.loadLoc ty43 (.plain rfl) rfl (fun _ => Nat.le_of_ble_eq_true rfl)) | apply Trace.pu [] (.loadRp ty43 (.plain rfl) (fun _ => by decide)) | apply Trace.pu [] (.loadRp ty43 (.plain rfl) (fun _ => Nat.le_of_ble_eq_true rfl)) | apply Trace.pu [_] (.loadCol ty43 (.plain rfl) rfl rfl (fun _ => by decide) (fun _ => by omega)) | apply Trace.pu [_] (.loadArr ty43 (.plain rfl) rfl)
          apply Trace.alloc 8 [] (.data _) zo43 (cellsAs_data _) rfl
          first | apply Trace.storeD ty43 (.plain rfl) (.plain rfl) rfl rfl (by simp) (by simp [AV.oneB, single]) (by simp) (spliceL_all (by simp)) | apply Trace.storeD ty43 (.plain rfl) (.plain rfl) rfl rfl (by simp) (by simp [AV.oneB, single]) (by simp) rfl | apply Trace.storeDA ty43 (.plain rfl) (.plain rfl) rfl rfl (by simp) (by simp [AV.oneB, single]) (by simp) rfl | apply Trace.storeLoc ty43 (.plain rfl) (.plain rfl) rfl rfl (by simp) (by simp [AV.oneB, single]) (by simp) rfl | apply Trace.storeRow ty43 (.plain rfl) (.plain rfl) rfl rfl rfl rfl (by decide) (by simp [AV.oneB, single]) rfl (by omega)
          exact .nil _
        · exact keepOK_of hk hn rfl
        apply WPA.seq
        apply WPA.region
        · apply Trace.pu [] (.move (.plain rfl))
          apply Trace.pu [] (.fieldAddr fl43_0 (.plain rfl) rfl)
          first | apply Trace.pu [_] (.loadLoc1D ty3 (.plain rfl) rfl rfl) | apply Trace.pu [_] (.loadLoc1 ty3 (.plain rfl) rfl rfl) | apply Trace.pu [] (.loadRp1 ty3 (.plain rfl) rfl) | apply Trace.pu [_] (.loadCol1 ty3 (.plain rfl) rfl rfl rfl (fun _ => by omega))
          apply Trace.pu [] (.move (.plain rfl))
          apply Trace.pu [] (.arith (.plain rfl) (.plain rfl) rfl (fun _ => bd64 (by omega)))
          apply Trace.cu (callArgs (.plain rfl) (.cons (.plain rfl) (.cons (.plain rfl) (.cons (.plain rfl) .nil)))) (spec51 _ _ _) en51
          apply Trace.pu [] (.not (.plain rfl))
          apply Trace.pu [] (.move (.plain rfl))
          apply Trace.pg [] rfl (.move (.plain rfl))
          apply Trace.pg [] rfl (.fieldAddr fl43_1 (.plain rfl) rfl)
          first | apply Trace.pg [_] rfl (.loadLoc1D ty3 (.gd rfl (fun h => h)) rfl rfl) | apply Trace.pg [_] rfl (.loadLoc1 ty3 (.gd rfl (fun h => h)) rfl rfl) | apply Trace.pg [] rfl (.loadRp1 ty3 (.gd rfl (fun h => h)) rfl) | apply Trace.pg [_] rfl (.loadCol1 ty3 (.gd rfl (fun h => h)) rfl rfl rfl (fun _ => by omega))
          apply Trace.pg [] rfl (.move (.plain rfl))
          apply Trace.pg [] rfl (.arith (.gd rfl (fun h => h)) (.plain rfl) rfl (fun _ => bd64 (by omega)))
          apply Trace.cg rfl (callArgs (.gd rfl (fun h => h)) (.cons (.gd rfl (fun h => h)) (.cons (.plain rfl) (.cons (.gd rfl (fun h => h)) .nil)))) (fun h => spec51 _ _ _) en51
          apply Trace.pg [] rfl (.not (.gd rfl (fun h => h)))
          apply Trace.pu [] (.pick (.plain rfl) (.plain rfl) (.gd rfl (by simp)))
          apply Trace.pu [] (.move (.plain rfl))
          apply Trace.pg [] rfl (.move (.plain rfl))
          apply Trace.pg [] rfl (.fieldAddr fl43_2 (.plain rfl) rfl)
          first | apply Trace.pg [_] rfl (.loadLoc1D ty3 (.gd rfl (fun h => h)) rfl rfl) | apply Trace.pg [_] rfl (.loadLoc1 ty3 (.gd rfl (fun h => h)) rfl rfl) | apply Trace.pg [] rfl (.loadRp1 ty3 (.gd rfl (fun h => h)) rfl) | apply Trace.pg [_] rfl (.loadCol1 ty3 (.gd rfl (fun h => h)) rfl rfl rfl (fun _ => by omega))
          apply Trace.cg rfl (callArgs (.gd rfl (fun h => h)) (.cons (.gd rfl (fun h => h)) (.cons (.plain rfl) (.cons (.plain rfl) .nil)))) (fun h => spec51 _ _ _) en51
          apply Trace.pg [] rfl (.not (.gd rfl (fun h => h)))
          apply Trace.pu [] (.pick (.plain rfl) (.plain rfl) (.gd rfl (by simp)))
          apply Trace.pu [] (.move (.plain rfl))
          apply Trace.pg [] rfl (.move (.plain rfl))
          apply Trace.pg [] rfl (.fieldAddr fl43_3 (.plain rfl) rfl)
          first | apply Trace.pg [_] rfl (.loadLoc1D ty3 (.gd rfl (fun h => h)) rfl rfl) | apply Trace.pg [_] rfl (.loadLoc1 ty3 (.gd rfl (fun h => h)) rfl rfl) | apply Trace.pg [] rfl (.loadRp1 ty3 (.gd rfl (fun h => h)) rfl) | apply Trace.pg [_] rfl (.loadCol1 ty3 (.gd rfl (fun h => h)) rfl rfl rfl (fun _ => by omega))
          apply Trace.cg rfl (callArgs (.gd rfl (fun h => h)) (.cons (.gd rfl (fun h => h)) (.cons (.plain rfl) (.cons (.plain rfl) .nil)))) (fun h => spec51 _ _ _) en51
          apply Trace.pg [] rfl (.not (.gd rfl (fun h => h)))
          apply Trace.pu [] (.pick (.plain rfl) (.plain rfl) (.gd rfl (by simp)))
          exact .nil _
        · exact keepOK_of hk hn rfl
        refine WPA.cond rfl (fun hc5 => ?_) (fun hc5 => ?_)
        · apply WPA.seq
          apply WPA.region
          · apply Trace.pu [] (.assign (.plain rfl))
            exact .nil _
          · exact keepOK_of hk hn rfl
          apply WPA.ret
          refine ⟨.inr rfl, ⟨_, (.cons (.tmp rfl) .nil), ?_⟩, by simp [St.get]⟩
          have hnl : ¬ (g.lat.length > 4096 ∨ g.es.length > 16384) := by
            revert hc1
            by_cases h1 : (g.lat.length : Int) > 4096
            · simp [h1]
            · simp [h1]; omega
          have hF : g.formed = 210 := by
            unfold Gr.formed
            rw [if_neg hnl, if_neg]
            simp only [Bool.and_eq_true, List.all_eq_true, not_and]
            intro _ hA
            have h2 := hA (g.es.getD i default) (by rw [getD_lt _ _ hlt2]; exact List.getElem_mem hlt2)
            simp only [Edg.ok, Bool.and_eq_true, decide_eq_true_eq] at h2
            simp only [within_eq, Int.toNat_natCast, decide_eq_true h2.1.1.1, decide_eq_true h2.1.1.2, decide_eq_true h2.1.2, decide_eq_true h2.2, Bool.not_true, cond_false, Bool.false_eq_true] at hc5
          rw [hF]; rfl
        · apply WPA.skip
          apply WPA.region
          · apply Trace.pu [] (.arith (.plain rfl) (.plain rfl) rfl (fun _ => bd64 (by omega)))
            apply Trace.pu [] (.move (.plain rfl))
            exact .nil _
          · exact keepOK_of hk hn rfl
          refine ⟨i + 1, ⟨by omega, fun j h => ?_⟩, by omega, St.le_cons rfl (St.le_cons rfl (St.le_cons rfl (St.le_cons rfl (St.le_cons rfl (St.le_cons rfl (St.le_cons rfl (St.le_nil _)))))))⟩
          by_cases hj : j = i
          · subst hj
            simp only [within_eq] at hc5
            simp only [Edg.ok, Bool.and_eq_true, decide_eq_true_eq]
            revert hc5
            by_cases h1 : 0 ≤ (g.es.getD j default).f ∧ (g.es.getD j default).f ≤ (g.lat.length : Int) - 1 <;> by_cases h2 : 0 ≤ (g.es.getD j default).t ∧ (g.es.getD j default).t ≤ (g.lat.length : Int) - 1 <;> by_cases h3 : 0 ≤ (g.es.getD j default).w ∧ (g.es.getD j default).w ≤ 64 <;> by_cases h4 : 0 ≤ (g.es.getD j default).d ∧ (g.es.getD j default).d ≤ 1048576 <;> simp [h1, h2, h3, h4]
          · exact hi.2 j (by omega)
      · apply WPA.exit
        apply WPA.seq
        apply WPA.region
        · apply Trace.pu [] (.assign (.plain rfl))
          exact .nil _
        · exact keepOK_of hk hn rfl
        apply WPA.ret
        refine ⟨.inr rfl, ⟨_, (.cons (.tmp rfl) .nil), ?_⟩, by simp [St.get]⟩
        have hnl : ¬ (g.lat.length > 4096 ∨ g.es.length > 16384) := by
          revert hc1
          by_cases h1 : (g.lat.length : Int) > 4096
          · simp [h1]
          · simp [h1]; omega
        have hF : g.formed = 0 := by
          unfold Gr.formed
          rw [if_neg hnl, if_pos]
          simp only [Bool.and_eq_true, List.all_eq_true]
          refine ⟨hL, fun e he => ?_⟩
          obtain ⟨j, hj, rfl⟩ := List.mem_iff_getElem.1 he
          have := hi.2 j (by simp at hc4; omega)
          rwa [getD_lt _ _ hj] at this
        rw [hF]; rfl

end Go.Proofs.Ytglokdfdogmmhaa


/- slices.Reverse of ints; graph.back. -/
namespace Go.Proofs.Ytglokdfdogmmhaa
open Go
set_option linter.unusedVariables false
set_option linter.unusedSimpArgs false
set_option maxRecDepth 10000

/-- A list, its outermost i elements on either side exchanged. -/
def revTo (l : List Int) (i : Nat) : List Int := (List.range l.length).map fun k => if k < i ∨ l.length < k + i + 1 then l.getD (l.length - 1 - k) 0 else l.getD k 0
theorem revTo_length (l : List Int) (i : Nat) : (revTo l i).length = l.length := by simp [revTo]
theorem revTo_at (l : List Int) (i k : Nat) (hk : k < l.length) : (revTo l i).getD k 0 = if k < i ∨ l.length < k + i + 1 then l.getD (l.length - 1 - k) 0 else l.getD k 0 := by
  rw [getD_lt _ _ (by rw [revTo_length]; exact hk)]
  simp only [revTo, List.getElem_map, List.getElem_range]
theorem ext_getD {l m : List Int} (hl : l.length = m.length) (h : ∀ k, k < l.length → l.getD k 0 = m.getD k 0) : l = m := by
  refine List.ext_getElem hl fun k h1 h2 => ?_
  have := h k h1
  rwa [getD_lt _ _ h1, getD_lt _ _ h2] at this
theorem revTo_zero (l : List Int) : revTo l 0 = l := ext_getD (revTo_length l 0) fun k hk => by
  rw [revTo_length] at hk
  rw [revTo_at l 0 k hk, if_neg (by omega)]
theorem revTo_end (l : List Int) (i : Nat) (h : l.length ≤ 2 * i + 1) : revTo l i = l.reverse := ext_getD (by simp [revTo_length]) fun k hk => by
  rw [revTo_length] at hk
  rw [revTo_at l i k hk, getD_lt l.reverse 0 (by simpa using hk), List.getElem_reverse]
  by_cases hc : k < i ∨ l.length < k + i + 1
  · rw [if_pos hc, getD_lt _ _ (by omega)]
  · rw [if_neg hc, getD_lt _ _ hk]
    congr 1; omega
theorem revTo_succ (l : List Int) (i : Nat) (h : 2 * i + 1 < l.length) : revTo l (i + 1) = ((revTo l i).set i ((revTo l i).getD (l.length - 1 - i) 0)).set (l.length - 1 - i) ((revTo l i).getD i 0) := by
  refine ext_getD (by simp [revTo_length]) fun k hk => ?_
  rw [revTo_length] at hk
  rw [getD_set (by rw [List.length_set, revTo_length]; omega), getD_set (by rw [revTo_length]; omega), revTo_at l (i + 1) k hk]
  by_cases h1 : l.length - 1 - i = k
  · rw [if_pos h1, if_pos (by omega), revTo_at l i i (by omega), if_neg (by omega)]
    congr 1; omega
  · rw [if_neg h1]
    by_cases h2 : i = k
    · rw [if_pos h2, if_pos (by omega), revTo_at l i _ (by omega), if_neg (by omega)]
      congr 1; omega
    · rw [if_neg h2, revTo_at l i k hk]
      by_cases h3 : k < i ∨ l.length < k + i + 1
      · rw [if_pos h3, if_pos (by omega)]
      · rw [if_neg h3, if_neg (by omega)]
theorem app_eq64 {n : Nat} {xs ys : List Int} (h : xs = ys) : some (Cont.blk (.app 1 n [.ints .i64 xs])) = some (Cont.blk (.app 1 n [.ints .i64 ys])) := by rw [h]
/-- slices.Reverse[[]int,int] -/
theorem spec55 (xs : List Int) (m : Nat) (hm : xs.length = m) (hx : xs.length ≤ 4611686018427387904) : FnSpec Try.prog 55 [.own 0 m] [(bk 0, .blk (.app 1 m [.ints .i64 xs]))] (.tup []) [(bk 0, .blk (.app 1 m [.ints .i64 xs.reverse]))] [0] := by
  subst hm
  refine fnSpec_of (rs := []) Try.func55 rfl rfl (Nat.le_of_ble_eq_true rfl) (odd_of rfl) fun E hk hn => ?_
  apply WPA.seq
  apply WPA.region
  · apply Trace.pu [] (.move (.plain rfl))
    apply Trace.pu [] (.len rfl Try.underlying22 (.plain rfl) rfl)
    apply Trace.pu [] (.arith (.plain rfl) (.plain rfl) rfl (fun _ => bd64 (by omega)))
    apply Trace.pu [] (.assign (.plain rfl))
    apply Trace.pu [] (.assign (.plain rfl))
    exact .nil _
  · exact keepOK_of hk hn rfl
  apply WPA.block
  refine WPA.loop (σ := Nat) (fun i => [(sl 0, .av (.own 0 xs.length)), (sl 2, .av (iv .i64 (i))), (sl 3, .av (iv .i64 ((xs.length : Int) - 1 - i))), (bk 0, .blk (.app 1 xs.length [.ints .i64 (revTo xs i)]))]) (fun i => i ≤ xs.length) (fun i => xs.length - i) 0
    (St.le_cons rfl (St.le_cons rfl (St.le_cons (by rw [show (xs.length : Int) - 1 - ((0 : Nat) : Int) = (xs.length : Int) - 1 by omega]; rfl) (St.le_cons (by rw [revTo_zero]; rfl) (St.le_nil _))))) (Nat.zero_le _) fun i hi => ?_
  apply WPA.seq
  apply WPA.seq
  apply WPA.region
  · apply Trace.pu [] (.move (.plain rfl))
    apply Trace.pu [] (.move (.plain rfl))
    apply Trace.pu [] (.cmp (.plain rfl) (.plain rfl) rfl)
    exact .nil _
  · exact keepOK_of hk hn rfl
  refine WPA.cond rfl (fun hc1 => ?_) (fun hc1 => ?_)
  · have hlt : (i : Int) < (xs.length : Int) - 1 - i := by simpa using hc1
    have e1 : ((xs.length : Int) - 1 - i).toNat = xs.length - 1 - i := by omega
    apply WPA.skip
    apply WPA.seq
    apply WPA.block
    have hrl := revTo_length xs i
    apply WPA.draw mixed
    · apply Trace.pu [] (.move (.plain rfl))
      apply Trace.pu [] (.move (.plain rfl))
      apply Trace.pu [] (.move (.plain rfl))
      apply Trace.pu [] (.move (.plain rfl))
      apply Trace.pu [] (.move (.plain rfl))
      apply Trace.pu [] (.move (.plain rfl))
      first | apply Trace.pu [] (.indexRows el22 (.plain rfl) (.plain rfl) (fun _ => ⟨by omega, by omega⟩)) | apply Trace.pu [] (.indexOwn el22 (.plain rfl) (.plain rfl) (fun _ => ⟨by omega, by omega⟩)) | apply Trace.pu [] (.indexSl el22 (.plain rfl) (.plain rfl) (fun _ => ⟨by omega, by omega⟩))
      first | apply Trace.pu [_] (.loadLoc1D ty3 (.plain rfl) rfl rfl) | apply Trace.pu [_] (.loadLoc1 ty3 (.plain rfl) rfl rfl) | apply Trace.pu [] (.loadRp1 ty3 (.plain rfl) rfl) | apply Trace.pu [_] (.loadCol1 ty3 (.plain rfl) rfl rfl rfl (fun _ => by omega))
      apply Trace.pu [] (.move (.plain rfl))
      apply Trace.pu [] (.move (.plain rfl))
      first | apply Trace.pu [] (.indexRows el22 (.plain rfl) (.plain rfl) (fun _ => ⟨by omega, by omega⟩)) | apply Trace.pu [] (.indexOwn el22 (.plain rfl) (.plain rfl) (fun _ => ⟨by omega, by omega⟩)) | apply Trace.pu [] (.indexSl el22 (.plain rfl) (.plain rfl) (fun _ => ⟨by omega, by omega⟩))
      first | apply Trace.pu [_] (.loadLoc1D ty3 (.plain rfl) rfl rfl) | apply Trace.pu [_] (.loadLoc1 ty3 (.plain rfl) rfl rfl) | apply Trace.pu [] (.loadRp1 ty3 (.plain rfl) rfl) | apply Trace.pu [_] (.loadCol1 ty3 (.plain rfl) rfl rfl rfl (fun _ => by omega))
      first | apply Trace.pu [] (.indexRows el22 (.plain rfl) (.plain rfl) (fun _ => ⟨by omega, by omega⟩)) | apply Trace.pu [] (.indexOwn el22 (.plain rfl) (.plain rfl) (fun _ => ⟨by omega, by omega⟩)) | apply Trace.pu [] (.indexSl el22 (.plain rfl) (.plain rfl) (fun _ => ⟨by omega, by omega⟩))
      first | apply Trace.storeD ty3 (.plain rfl) (.plain rfl) rfl rfl rfl (by simp [AV.oneB, single]) (Nat.le_of_ble_eq_true rfl) rfl | apply Trace.storeDA ty3 (.plain rfl) (.plain rfl) rfl rfl rfl (by simp [AV.oneB, single]) (Nat.le_of_ble_eq_true rfl) rfl | apply Trace.storeLoc ty3 (.plain rfl) (.plain rfl) rfl rfl rfl (by simp [AV.oneB, single]) (Nat.le_of_ble_eq_true rfl) rfl | apply Trace.storeRow ty3 (.plain rfl) (.plain rfl) rfl rfl rfl rfl (by decide) (by simp [AV.oneB, single]) rfl (by omega)
      first | apply Trace.pu [] (.indexRows el22 (.plain rfl) (.plain rfl) (fun _ => ⟨by omega, by omega⟩)) | apply Trace.pu [] (.indexOwn el22 (.plain rfl) (.plain rfl) (fun _ => ⟨by omega, by omega⟩)) | apply Trace.pu [] (.indexSl el22 (.plain rfl) (.plain rfl) (fun _ => ⟨by omega, by omega⟩))
      first | apply Trace.storeD ty3 (.plain rfl) (.plain rfl) rfl rfl rfl (by simp [AV.oneB, single]) (Nat.le_of_ble_eq_true rfl) rfl | apply Trace.storeDA ty3 (.plain rfl) (.plain rfl) rfl rfl rfl (by simp [AV.oneB, single]) (Nat.le_of_ble_eq_true rfl) rfl | apply Trace.storeLoc ty3 (.plain rfl) (.plain rfl) rfl rfl rfl (by simp [AV.oneB, single]) (Nat.le_of_ble_eq_true rfl) rfl | apply Trace.storeRow ty3 (.plain rfl) (.plain rfl) rfl rfl rfl rfl (by decide) (by simp [AV.oneB, single]) rfl (by omega)
      exact .nil _
    · rfl
    · exact keepOK_of hk hn rfl
    apply WPA.region
    · apply Trace.pu [] (.move (.plain rfl))
      apply Trace.pu [] (.arith (.plain rfl) (.plain rfl) rfl (fun _ => bd64 (by omega)))
      apply Trace.pu [] (.move (.plain rfl))
      apply Trace.pu [] (.arith (.plain rfl) (.plain rfl) rfl (fun _ => bd64 (by omega)))
      apply Trace.pu [] (.assign (.plain rfl))
      apply Trace.pu [] (.assign (.plain rfl))
      exact .nil _
    · exact keepOK_of hk hn rfl
    exact ⟨i + 1, by omega, by omega, St.le_cons rfl (St.le_cons (iv_eq (by omega)) (St.le_cons (iv_eq (by omega)) (St.le_cons (app_eq64 (by rw [revTo_succ xs i (by omega)]; simp [e1])) (St.le_nil _))))⟩
  · have hge : ¬ ((i : Int) < (xs.length : Int) - 1 - i) := by simpa using hc1
    apply WPA.exit
    refine ⟨.inl rfl, ⟨_, (.nil), ?_⟩, blks_of (.cons (app_eq64 (revTo_end xs i (by omega))) .nil)⟩
    rfl

/-- soundpost/graph.back -/
theorem back1 (g : Gr) (nb : Nat) (by_ : List Int) (x : Int) : FnSpec Try.prog 54 [g.av, .d (rowsD 1 nb [.ints .i64 by_]), iv .i64 x] [] (.fn 68 [.loc 61 0, .loc 62 0, .loc 60 0]) [(bk 60, .blk (.data g.ds)), (bk 61, .blk (.data [rowsD 1 nb [.ints .i64 by_]])), (bk 62, .blk (.data [.v (.int .i64 x)]))] [] := by
  refine fnSpec_of (rs := [.tmp 6]) Try.func54 rfl rfl (Nat.le_of_ble_eq_true rfl) (by simp [St.get]) fun E hk hn => ?_
  apply WPA.seq
  apply WPA.region
  · apply Trace.boxD 60 [] (.plain rfl) rfl rfl
    apply Trace.boxD 61 [] (.plain rfl) rfl rfl
    apply Trace.boxD 62 [] (.plain rfl) rfl rfl
    apply Trace.pu [] (.assign (.plain rfl))
    exact .nil _
  · exact keepOK_of hk hn rfl
  apply WPA.seq
  apply WPA.region
  · apply Trace.pu [] (.funcL (.cons (.plain rfl) (.cons (.plain rfl) (.cons (.plain rfl) .nil))))
    apply Trace.pu [] (.assign (.plain rfl))
    exact .nil _
  · exact keepOK_of hk hn rfl
  apply WPA.ret
  refine ⟨.inr rfl, ⟨_, (.cons (.tmp rfl) .nil), ?_⟩, blks_of (.cons rfl (.cons rfl (.cons rfl .nil)))⟩
  rfl

/-- soundpost/graph.back -/
theorem back2 (g : Gr) (nb : Nat) (by_ : List Int) (x : Int) : FnSpec Try.prog 54 [g.av, .d (rowsD 1 nb [.ints .i64 by_]), iv .i64 x] [] (.fn 68 [.loc 64 0, .loc 65 0, .loc 63 0]) [(bk 63, .blk (.data g.ds)), (bk 64, .blk (.data [rowsD 1 nb [.ints .i64 by_]])), (bk 65, .blk (.data [.v (.int .i64 x)]))] [] := by
  refine fnSpec_of (rs := [.tmp 6]) Try.func54 rfl rfl (Nat.le_of_ble_eq_true rfl) (by simp [St.get]) fun E hk hn => ?_
  apply WPA.seq
  apply WPA.region
  · apply Trace.boxD 63 [] (.plain rfl) rfl rfl
    apply Trace.boxD 64 [] (.plain rfl) rfl rfl
    apply Trace.boxD 65 [] (.plain rfl) rfl rfl
    apply Trace.pu [] (.assign (.plain rfl))
    exact .nil _
  · exact keepOK_of hk hn rfl
  apply WPA.seq
  apply WPA.region
  · apply Trace.pu [] (.funcL (.cons (.plain rfl) (.cons (.plain rfl) (.cons (.plain rfl) .nil))))
    apply Trace.pu [] (.assign (.plain rfl))
    exact .nil _
  · exact keepOK_of hk hn rfl
  apply WPA.ret
  refine ⟨.inr rfl, ⟨_, (.cons (.tmp rfl) .nil), ?_⟩, blks_of (.cons rfl (.cons rfl (.cons rfl .nil)))⟩
  rfl

end Go.Proofs.Ytglokdfdogmmhaa


/- The iterator of graph.back, over the two loops that range over it. -/
namespace Go.Proofs.Ytglokdfdogmmhaa
open Go
set_option linter.unusedVariables false
set_option linter.unusedSimpArgs false
set_option maxRecDepth 10000

theorem datI {x y : Int} (h : x = y) : some (Cont.blk (.data [.v (.int .i64 x)])) = some (Cont.blk (.data [.v (.int .i64 y)])) := by rw [h]
theorem lpE {h : LH} {pe pe' : Option Code} {ts : List (Nat × AV)} (e : pe = pe') : some (Cont.blk (.lp (h.out pe) ts)) = some (Cont.blk (.lp (h.out pe') ts)) := by rw [e]
theorem slI {k : IntKind} {x y : Int} (h : x = y) : some (Cont.av (iv k x)) = some (Cont.av (iv k y)) := by rw [h]
/-- What lies at each round: of the first loop, of the second. -/
abbrev Cs1 (g : Gr) (s : BF) (v k : Nat) : St := [(bk 1, .blk (.data g.ds)), (bk 5, .blk (.data [.v (.int .i64 g.lat.length)])), (bk 8, .blk (.data [.v (.int .i64 (g.back s k v : Nat))])), (bk 12, .blk (.data [.v (.int .i64 (min k g.lat.length : Nat))]))]
abbrev ts1 : List (Nat × AV) := [(1, .loc 1 0), (5, .loc 5 0), (8, .loc 8 0), (12, .loc 12 0)]
abbrev pe1 (n k : Nat) : Option Code := if k = n then some (.exit 4) else none
abbrev lh1 (ac bo : Code) : LH := ⟨.ready, none, #[87], ac, bo, 119⟩
abbrev gone (g : Gr) (s : BF) (x k : Nat) : List Int := (List.range k).map fun i => s.B (g.back s i x)
abbrev Cs2 (g : Gr) (s : BF) (x k : Nat) : St := [(bk 1, .blk (.data g.ds)), (bk 8, .blk (.data [.v (.int .i64 x)])), (bk 2, .blk (.cells [.own 90 k])), (bk 90, .blk (.app 1 k [.ints .i64 (gone g s x k)]))]
abbrev ts2 : List (Nat × AV) := [(1, .loc 1 0), (8, .loc 8 0), (2, .loc 2 0)]
abbrev pe2 (g : Gr) (s : BF) (x k : Nat) : Option Code := if g.back s (k + 1) x = x then some (.exit 6) else none
abbrev lh2 (ac bo : Code) : LH := ⟨.ready, none, #[103], ac, bo, 119⟩

theorem bf_facts {g : Gr} (h : g.OK) {s : BF} (hb : s.by_.length = g.lat.length) {v : Nat} (o : OnWay g s v) : v < s.by_.length ∧ 0 ≤ s.by_.getD v 0 ∧ (s.by_.getD v 0).toNat < g.es.length ∧ (g.es.getD (s.by_.getD v 0).toNat default).f = ((g.pr s v : Nat) : Int) := by
  obtain ⟨hlt, j, hj, hB, _⟩ := o
  have hB : s.by_.getD v 0 = (j : Int) := hB
  refine ⟨by omega, by rw [hB]; omega, by rw [hB]; simpa using hj, ?_⟩
  unfold Gr.pr
  show _ = (((g.es.getD (s.by_.getD v 0).toNat default).f.toNat : Nat) : Int)
  have h2 := Gr.edge h (j := (s.by_.getD v 0).toNat) (by rw [hB]; simpa using hj)
  omega
/-- soundpost/graph.back$1 -/
theorem it1 {g : Gr} (h : g.OK) {s : BF} (hb : s.by_.length = g.lat.length) {v : Nat} (hw : ∀ k, OnWay g s (g.back s k v)) {ac bo : Code} (hY : ∀ k, k ≤ g.lat.length → YSpec Try.prog 70 [iv .i64 (s.B (g.back s k v))] ((bk 70, .blk (.lp (lh1 ac bo) ts1)) :: Cs1 g s v k) (bv (pe1 g.lat.length k).isNone) ((bk 70, .blk (.lp ((lh1 ac bo).out (pe1 g.lat.length k)) ts1)) :: Cs1 g s v (k + 1)) [70, 1, 5, 8, 12]) : FnSpec Try.prog 68 [.yld 70, .loc 61 0, .loc 62 0, .loc 60 0] ((bk 70, .blk (.lp (lh1 ac bo) ts1)) :: (bk 60, .blk (.data g.ds)) :: (bk 61, .blk (.data [rowsD 1 g.lat.length [.ints .i64 s.by_]])) :: (bk 62, .blk (.data [.v (.int .i64 (v : Nat))])) :: Cs1 g s v 0) (.tup []) ((bk 70, .blk (.lp ((lh1 ac bo).out (some (.exit 4))) ts1)) :: Cs1 g s v (g.lat.length + 1)) [70, 1, 5, 8, 12] := by
  have hn1 := h.n
  have hn2 := h.m
  have hsp := hb
  refine fnSpec_of (rs := []) Try.func68 rfl rfl (Nat.le_of_ble_eq_true rfl) (odd_of rfl) fun E hk hn => ?_
  apply WPA.block
  refine WPA.loop (σ := Nat) (fun i => [(sl 0, .av (.yld 70)), (sl 1, .av (.loc 61 0)), (sl 2, .av (.loc 62 0)), (sl 3, .av (.loc 60 0)), (bk 60, .blk (.data g.ds)), (bk 61, .blk (.data [rowsD 1 g.lat.length [.ints .i64 s.by_]])), (bk 62, .blk (.data [.v (.int .i64 (g.back s i v : Nat))])), (bk 70, .blk (.lp (lh1 ac bo) ts1)), (bk 1, .blk (.data g.ds)), (bk 5, .blk (.data [.v (.int .i64 g.lat.length)])), (bk 8, .blk (.data [.v (.int .i64 (g.back s i v : Nat))])), (bk 12, .blk (.data [.v (.int .i64 (min i g.lat.length : Nat))]))]) (fun i => i ≤ g.lat.length) (fun i => g.lat.length - i) 0
    (St.le_cons rfl (St.le_cons rfl (St.le_cons rfl (St.le_cons rfl (St.le_cons rfl (St.le_cons rfl (St.le_cons rfl (St.le_cons rfl (St.le_cons rfl (St.le_cons rfl (St.le_cons rfl (St.le_cons rfl (St.le_nil _))))))))))))) (Nat.zero_le _) fun i hi => ?_
  apply WPA.seq
  apply WPA.seq
  have ho := hw i
  obtain ⟨hf1, hf2, hf3, hf4⟩ := bf_facts h hb ho
  have hbi : s.by_.getD (g.back s i v) 0 = s.B (g.back s i v) := rfl
  apply WPA.region
  · apply Trace.pu [] (.move (.plain rfl))
    first | apply Trace.pu [_] (.loadLoc1D ty22 (.plain rfl) rfl rfl) | apply Trace.pu [_] (.loadLoc1 ty22 (.plain rfl) rfl rfl) | apply Trace.pu [] (.loadRp1 ty22 (.plain rfl) rfl) | apply Trace.pu [_] (.loadCol1 ty22 (.plain rfl) rfl rfl rfl (fun _ => by omega))
    first | apply Trace.pu [_] (.loadLoc1D ty3 (.plain rfl) rfl rfl) | apply Trace.pu [_] (.loadLoc1 ty3 (.plain rfl) rfl rfl) | apply Trace.pu [] (.loadRp1 ty3 (.plain rfl) rfl) | apply Trace.pu [_] (.loadCol1 ty3 (.plain rfl) rfl rfl rfl (fun _ => by omega))
    first | apply Trace.pu [] (.indexRows el22 (.plain rfl) (.plain rfl) (fun _ => ⟨by omega, by omega⟩)) | apply Trace.pu [] (.indexOwn el22 (.plain rfl) (.plain rfl) (fun _ => ⟨by omega, by omega⟩)) | apply Trace.pu [] (.indexSl el22 (.plain rfl) (.plain rfl) (fun _ => ⟨by omega, by omega⟩))
    first | apply Trace.pu [_] (.loadLoc1D ty3 (.plain rfl) rfl rfl) | apply Trace.pu [_] (.loadLoc1 ty3 (.plain rfl) rfl rfl) | apply Trace.pu [] (.loadRp1 ty3 (.plain rfl) rfl) | apply Trace.pu [_] (.loadCol1 ty3 (.plain rfl) rfl rfl rfl (fun _ => by omega))
    apply Trace.cyG (gs := []) [] [bk 70, bk 1, bk 5, bk 8, bk 12] (yieldArgs (.plain rfl) (.cons (.plain rfl) .nil)) (hY i hi) rfl (.cons rfl (.cons rfl (.cons rfl (.cons rfl (.cons rfl (.nil)))))) rfl rfl
    exact .nil _
  · exact keepOK_of hk hn rfl
  refine WPA.cond rfl (fun hc1 => ?_) (fun hc1 => ?_)
  · have hin : i ≠ g.lat.length := fun he => by simp [pe1, he] at hc1
    have hpe : pe1 g.lat.length i = none := if_neg hin
    apply WPA.skip
    apply WPA.block
    have hf2t : 0 ≤ s.by_.getD (((g.back s i v : Nat) : Int)).toNat 0 := hf2
    have hf3t : (s.by_.getD (((g.back s i v : Nat) : Int)).toNat 0).toNat < g.es.length := hf3
    apply WPA.draw mixed
    · apply Trace.pu [] (.fieldAddr fl25_1 (.plain rfl) rfl)
      first | apply Trace.pu [_] (.loadLoc1D ty23 (.plain rfl) rfl rfl) | apply Trace.pu [_] (.loadLoc1 ty23 (.plain rfl) rfl rfl) | apply Trace.pu [] (.loadRp1 ty23 (.plain rfl) rfl) | apply Trace.pu [_] (.loadCol1 ty23 (.plain rfl) rfl rfl rfl (fun _ => by omega))
      first | apply Trace.pu [_] (.loadLoc1D ty22 (.plain rfl) rfl rfl) | apply Trace.pu [_] (.loadLoc1 ty22 (.plain rfl) rfl rfl) | apply Trace.pu [] (.loadRp1 ty22 (.plain rfl) rfl) | apply Trace.pu [_] (.loadCol1 ty22 (.plain rfl) rfl rfl rfl (fun _ => by omega))
      first | apply Trace.pu [_] (.loadLoc1D ty3 (.plain rfl) rfl rfl) | apply Trace.pu [_] (.loadLoc1 ty3 (.plain rfl) rfl rfl) | apply Trace.pu [] (.loadRp1 ty3 (.plain rfl) rfl) | apply Trace.pu [_] (.loadCol1 ty3 (.plain rfl) rfl rfl rfl (fun _ => by omega))
      first | apply Trace.pu [] (.indexRows el22 (.plain rfl) (.plain rfl) (fun _ => ⟨by omega, by omega⟩)) | apply Trace.pu [] (.indexOwn el22 (.plain rfl) (.plain rfl) (fun _ => ⟨by omega, by omega⟩)) | apply Trace.pu [] (.indexSl el22 (.plain rfl) (.plain rfl) (fun _ => ⟨by omega, by omega⟩))
      first | apply Trace.pu [_] (.loadLoc1D ty3 (.plain rfl) rfl rfl) | apply Trace.pu [_] (.loadLoc1 ty3 (.plain rfl) rfl rfl) | apply Trace.pu [] (.loadRp1 ty3 (.plain rfl) rfl) | apply Trace.pu [_] (.loadCol1 ty3 (.plain rfl) rfl rfl rfl (fun _ => by omega))
      first | apply Trace.pu [] (.indexRows el23 (.plain rfl) (.plain rfl) (fun _ => ⟨by omega, by omega⟩)) | apply Trace.pu [] (.indexOwn el23 (.plain rfl) (.plain rfl) (fun _ => ⟨by omega, by omega⟩)) | apply Trace.pu [] (.indexSl el23 (.plain rfl) (.plain rfl) (fun _ => ⟨by omega, by omega⟩))
      apply Trace.pu [] (.fieldAddr fl43_0 (.plain rfl) rfl)
      first | apply Trace.pu [_] (.loadLoc1D ty3 (.plain rfl) rfl rfl) | apply Trace.pu [_] (.loadLoc1 ty3 (.plain rfl) rfl rfl) | apply Trace.pu [] (.loadRp1 ty3 (.plain rfl) rfl) | apply Trace.pu [_] (.loadCol1 ty3 (.plain rfl) rfl rfl rfl (fun _ => by omega))
      first | apply Trace.storeD ty3 (.plain rfl) (.plain rfl) rfl rfl rfl (by simp [AV.oneB, single]) (Nat.le_of_ble_eq_true rfl) rfl | apply Trace.storeDA ty3 (.plain rfl) (.plain rfl) rfl rfl rfl (by simp [AV.oneB, single]) (Nat.le_of_ble_eq_true rfl) rfl | apply Trace.storeLoc ty3 (.plain rfl) (.plain rfl) rfl rfl rfl (by simp [AV.oneB, single]) (Nat.le_of_ble_eq_true rfl) rfl | apply Trace.storeRow ty3 (.plain rfl) (.plain rfl) rfl rfl rfl rfl (by decide) (by simp [AV.oneB, single]) rfl (by omega)
      exact .nil _
    · rfl
    · exact keepOK_of hk hn rfl
    exact ⟨i + 1, by omega, by omega, St.le_cons rfl (St.le_cons rfl (St.le_cons rfl (St.le_cons rfl (St.le_cons rfl (St.le_cons rfl (St.le_cons (datI hf4) (St.le_cons (lpE hpe) (St.le_cons rfl (St.le_cons rfl (St.le_cons rfl (St.le_cons rfl (St.le_nil _))))))))))))⟩
  · have hin : i = g.lat.length := by
      by_cases he : i = g.lat.length
      · exact he
      · simp [pe1, he] at hc1
    apply WPA.exit
    refine ⟨.inl rfl, ⟨_, (.nil), ?_⟩, blks_of (.cons (lpE (if_pos hin)) (.cons rfl (.cons rfl (.cons (by rw [hin]; rfl) (.cons (by rw [hin]; rfl) .nil)))))⟩
    rfl

/-- soundpost/graph.back$1 -/
theorem it2 {g : Gr} (h : g.OK) {s : BF} (hb : s.by_.length = g.lat.length) {x p : Nat} (hp : 0 < p) (hpx : g.back s p x = x) (hmin : ∀ k, 0 < k → k < p → g.back s k x ≠ x) (hw : ∀ k, OnWay g s (g.back s k x)) {ac bo : Code} (hY : ∀ k, k ≤ p - 1 → YSpec Try.prog 71 [iv .i64 (s.B (g.back s k x))] ((bk 71, .blk (.lp (lh2 ac bo) ts2)) :: Cs2 g s x k) (bv (pe2 g s x k).isNone) ((bk 71, .blk (.lp ((lh2 ac bo).out (pe2 g s x k)) ts2)) :: Cs2 g s x (k + 1)) [71, 1, 8, 2]) : FnSpec Try.prog 68 [.yld 71, .loc 64 0, .loc 65 0, .loc 63 0] ((bk 71, .blk (.lp (lh2 ac bo) ts2)) :: (bk 63, .blk (.data g.ds)) :: (bk 64, .blk (.data [rowsD 1 g.lat.length [.ints .i64 s.by_]])) :: (bk 65, .blk (.data [.v (.int .i64 (x : Nat))])) :: Cs2 g s x 0) (.tup []) ((bk 71, .blk (.lp ((lh2 ac bo).out (some (.exit 6))) ts2)) :: Cs2 g s x p) [71, 1, 8, 2] := by
  have hn1 := h.n
  have hn2 := h.m
  have hsp := hb
  refine fnSpec_of (rs := []) Try.func68 rfl rfl (Nat.le_of_ble_eq_true rfl) (odd_of rfl) fun E hk hn => ?_
  apply WPA.block
  refine WPA.loop (σ := Nat) (fun i => [(sl 0, .av (.yld 71)), (sl 1, .av (.loc 64 0)), (sl 2, .av (.loc 65 0)), (sl 3, .av (.loc 63 0)), (bk 63, .blk (.data g.ds)), (bk 64, .blk (.data [rowsD 1 g.lat.length [.ints .i64 s.by_]])), (bk 65, .blk (.data [.v (.int .i64 (g.back s i x : Nat))])), (bk 71, .blk (.lp (lh2 ac bo) ts2)), (bk 1, .blk (.data g.ds)), (bk 8, .blk (.data [.v (.int .i64 x)])), (bk 2, .blk (.cells [.own 90 i])), (bk 90, .blk (.app 1 i [.ints .i64 (gone g s x i)]))]) (fun i => i < p) (fun i => p - i) 0
    (St.le_cons rfl (St.le_cons rfl (St.le_cons rfl (St.le_cons rfl (St.le_cons rfl (St.le_cons rfl (St.le_cons rfl (St.le_cons rfl (St.le_cons rfl (St.le_cons rfl (St.le_cons rfl (St.le_cons rfl (St.le_nil _))))))))))))) hp fun i hi => ?_
  apply WPA.seq
  apply WPA.seq
  have ho := hw i
  obtain ⟨hf1, hf2, hf3, hf4⟩ := bf_facts h hb ho
  have hbi : s.by_.getD (g.back s i x) 0 = s.B (g.back s i x) := rfl
  apply WPA.region
  · apply Trace.pu [] (.move (.plain rfl))
    first | apply Trace.pu [_] (.loadLoc1D ty22 (.plain rfl) rfl rfl) | apply Trace.pu [_] (.loadLoc1 ty22 (.plain rfl) rfl rfl) | apply Trace.pu [] (.loadRp1 ty22 (.plain rfl) rfl) | apply Trace.pu [_] (.loadCol1 ty22 (.plain rfl) rfl rfl rfl (fun _ => by omega))
    first | apply Trace.pu [_] (.loadLoc1D ty3 (.plain rfl) rfl rfl) | apply Trace.pu [_] (.loadLoc1 ty3 (.plain rfl) rfl rfl) | apply Trace.pu [] (.loadRp1 ty3 (.plain rfl) rfl) | apply Trace.pu [_] (.loadCol1 ty3 (.plain rfl) rfl rfl rfl (fun _ => by omega))
    first | apply Trace.pu [] (.indexRows el22 (.plain rfl) (.plain rfl) (fun _ => ⟨by omega, by omega⟩)) | apply Trace.pu [] (.indexOwn el22 (.plain rfl) (.plain rfl) (fun _ => ⟨by omega, by omega⟩)) | apply Trace.pu [] (.indexSl el22 (.plain rfl) (.plain rfl) (fun _ => ⟨by omega, by omega⟩))
    first | apply Trace.pu [_] (.loadLoc1D ty3 (.plain rfl) rfl rfl) | apply Trace.pu [_] (.loadLoc1 ty3 (.plain rfl) rfl rfl) | apply Trace.pu [] (.loadRp1 ty3 (.plain rfl) rfl) | apply Trace.pu [_] (.loadCol1 ty3 (.plain rfl) rfl rfl rfl (fun _ => by omega))
    apply Trace.cyG (gs := []) [90] [bk 71, bk 1, bk 8, bk 2, bk 90] (yieldArgs (.plain rfl) (.cons (.plain rfl) .nil)) (hY i (by omega)) rfl (.cons rfl (.cons rfl (.cons rfl (.cons rfl (.cons rfl (.nil)))))) rfl rfl
    exact .nil _
  · exact keepOK_of hk hn rfl
  refine WPA.cond rfl (fun hc1 => ?_) (fun hc1 => ?_)
  · have hin : g.back s (i + 1) x ≠ x := fun he => by simp [pe2, he] at hc1
    have hpe : pe2 g s x i = none := if_neg hin
    apply WPA.skip
    apply WPA.block
    have hf2t : 0 ≤ s.by_.getD (((g.back s i x : Nat) : Int)).toNat 0 := hf2
    have hf3t : (s.by_.getD (((g.back s i x : Nat) : Int)).toNat 0).toNat < g.es.length := hf3
    apply WPA.draw mixed
    · apply Trace.pu [] (.fieldAddr fl25_1 (.plain rfl) rfl)
      first | apply Trace.pu [_] (.loadLoc1D ty23 (.plain rfl) rfl rfl) | apply Trace.pu [_] (.loadLoc1 ty23 (.plain rfl) rfl rfl) | apply Trace.pu [] (.loadRp1 ty23 (.plain rfl) rfl) | apply Trace.pu [_] (.loadCol1 ty23 (.plain rfl) rfl rfl rfl (fun _ => by omega))
      first | apply Trace.pu [_] (.loadLoc1D ty22 (.plain rfl) rfl rfl) | apply Trace.pu [_] (.loadLoc1 ty22 (.plain rfl) rfl rfl) | apply Trace.pu [] (.loadRp1 ty22 (.plain rfl) rfl) | apply Trace.pu [_] (.loadCol1 ty22 (.plain rfl) rfl rfl rfl (fun _ => by omega))
      first | apply Trace.pu [_] (.loadLoc1D ty3 (.plain rfl) rfl rfl) | apply Trace.pu [_] (.loadLoc1 ty3 (.plain rfl) rfl rfl) | apply Trace.pu [] (.loadRp1 ty3 (.plain rfl) rfl) | apply Trace.pu [_] (.loadCol1 ty3 (.plain rfl) rfl rfl rfl (fun _ => by omega))
      first | apply Trace.pu [] (.indexRows el22 (.plain rfl) (.plain rfl) (fun _ => ⟨by omega, by omega⟩)) | apply Trace.pu [] (.indexOwn el22 (.plain rfl) (.plain rfl) (fun _ => ⟨by omega, by omega⟩)) | apply Trace.pu [] (.indexSl el22 (.plain rfl) (.plain rfl) (fun _ => ⟨by omega, by omega⟩))
      first | apply Trace.pu [_] (.loadLoc1D ty3 (.plain rfl) rfl rfl) | apply Trace.pu [_] (.loadLoc1 ty3 (.plain rfl) rfl rfl) | apply Trace.pu [] (.loadRp1 ty3 (.plain rfl) rfl) | apply Trace.pu [_] (.loadCol1 ty3 (.plain rfl) rfl rfl rfl (fun _ => by omega))
      first | apply Trace.pu [] (.indexRows el23 (.plain rfl) (.plain rfl) (fun _ => ⟨by omega, by omega⟩)) | apply Trace.pu [] (.indexOwn el23 (.plain rfl) (.plain rfl) (fun _ => ⟨by omega, by omega⟩)) | apply Trace.pu [] (.indexSl el23 (.plain rfl) (.plain rfl) (fun _ => ⟨by omega, by omega⟩))
      apply Trace.pu [] (.fieldAddr fl43_0 (.plain rfl) rfl)
      first | apply Trace.pu [_] (.loadLoc1D ty3 (.plain rfl) rfl rfl) | apply Trace.pu [_] (.loadLoc1 ty3 (.plain rfl) rfl rfl) | apply Trace.pu [] (.loadRp1 ty3 (.plain rfl) rfl) | apply Trace.pu [_] (.loadCol1 ty3 (.plain rfl) rfl rfl rfl (fun _ => by omega))
      first | apply Trace.storeD ty3 (.plain rfl) (.plain rfl) rfl rfl rfl (by simp [AV.oneB, single]) (Nat.le_of_ble_eq_true rfl) rfl | apply Trace.storeDA ty3 (.plain rfl) (.plain rfl) rfl rfl rfl (by simp [AV.oneB, single]) (Nat.le_of_ble_eq_true rfl) rfl | apply Trace.storeLoc ty3 (.plain rfl) (.plain rfl) rfl rfl rfl (by simp [AV.oneB, single]) (Nat.le_of_ble_eq_true rfl) rfl | apply Trace.storeRow ty3 (.plain rfl) (.plain rfl) rfl rfl rfl rfl (by decide) (by simp [AV.oneB, single]) rfl (by omega)
      exact .nil _
    · rfl
    · exact keepOK_of hk hn rfl
    exact ⟨i + 1, (by have h9 : i + 1 ≠ p := (fun e => hin (e ▸ hpx)); omega), by omega, St.le_cons rfl (St.le_cons rfl (St.le_cons rfl (St.le_cons rfl (St.le_cons rfl (St.le_cons rfl (St.le_cons (datI hf4) (St.le_cons (lpE hpe) (St.le_cons rfl (St.le_cons rfl (St.le_cons rfl (St.le_cons rfl (St.le_nil _))))))))))))⟩
  · have hin : i + 1 = p := by
      by_cases he : i + 1 = p
      · exact he
      · have := hmin (i + 1) (by omega) (by omega)
        simp [pe2, this] at hc1
    apply WPA.exit
    refine ⟨.inl rfl, ⟨_, (.nil), ?_⟩, blks_of (.cons (lpE (if_pos (by rw [hin]; exact hpx))) (.cons rfl (.cons rfl (.cons (by rw [← hin]; rfl) (.cons (by rw [← hin]; rfl) .nil)))))⟩
    rfl

end Go.Proofs.Ytglokdfdogmmhaa


/- graph.Loop. -/
namespace Go.Proofs.Ytglokdfdogmmhaa
open Go
set_option linter.unusedVariables false
set_option linter.unusedSimpArgs false
set_option maxRecDepth 10000

/-- soundpost/graph.Loop -/
theorem spec41 (g : Gr) (hz : g.Sz) : FnSpec Try.prog 41 [g.av] [] (.tup ([intsD g.cyc, .v (.bool g.looped), .v (.int .i64 g.formed)].map .d)) [] [] := by
  have hn1 := hz.n
  have hn2 := hz.m
  refine fnSpec_of_marks (rs := [.cell 2 22, .tmp 3, .tmp 4]) Try.func41 rfl rfl (Nat.le_of_ble_eq_true rfl) (by simp [St.get]) fun E hk hn => ?_
  apply WPA.seq
  apply WPA.region
  · first | apply Trace.boxD 1 [] (.plain rfl) rfl rfl | apply Trace.box 1 [] (.plain rfl) rfl rfl rfl
    apply Trace.alloc 2 [] (.data _) zo22 (cellsAs_data _) rfl
    apply Trace.pu [] (.assign (.plain rfl))
    apply Trace.pu [] (.assign (.plain rfl))
    exact .nil _
  · exact keepOK_of hk hn rfl
  apply WPA.scope
  apply WPA.seq
  apply WPA.seq
  apply WPA.region
  · first | apply Trace.pu [_] (.loadAllD ty25 (.plain rfl) rfl (by simp)) | apply Trace.pu [_] (.loadLocD ty25 (.plain rfl) rfl (fun _ => by simp)) | apply Trace.pu [_] (.loadLoc ty25 (.plain rfl) rfl (fun _ => Nat.le_of_ble_eq_true rfl)) | apply Trace.pu [] (.loadRp ty25 (.plain rfl) (fun _ => by decide)) | apply Trace.pu [] (.loadRp ty25 (.plain rfl) (fun _ => Nat.le_of_ble_eq_true rfl)) | apply Trace.pu [_] (.loadCol ty25 (.plain rfl) rfl rfl (fun _ => by decide) (fun _ => by omega)) | apply Trace.pu [_] (.loadArr ty25 (.plain rfl) rfl)
    apply Trace.cu (callArgs0 (.cons (.plain rfl) .nil)) (spec38 g hz) en38
    apply Trace.pu [] (.assign (.plain rfl))
    exact .nil _
  · exact keepOK_of hk hn rfl
  apply WPA.seq
  apply WPA.region
  · apply Trace.pu [] (.move (.plain rfl))
    apply Trace.pu [] (.cmp (.plain rfl) (.plain rfl) rfl)
    exact .nil _
  · exact keepOK_of hk hn rfl
  refine WPA.cond rfl (fun hc1 => ?_) (fun hc1 => ?_)
  · apply WPA.seq
    apply WPA.region
    · apply Trace.pu [] (.move (.plain rfl))
      first | apply Trace.storeD ty22 (.plain rfl) (.plain rfl) rfl rfl rfl (by simp [AV.oneB, single]) (Nat.le_of_ble_eq_true rfl) rfl | apply Trace.storeDA ty22 (.plain rfl) (.plain rfl) rfl rfl rfl (by simp [AV.oneB, single]) (Nat.le_of_ble_eq_true rfl) rfl | apply Trace.storeLoc ty22 (.plain rfl) (.plain rfl) rfl rfl rfl (by simp [AV.oneB, single]) (Nat.le_of_ble_eq_true rfl) rfl | apply Trace.storeRow ty22 (.plain rfl) (.plain rfl) rfl rfl rfl rfl (by decide) (by simp [AV.oneB, single]) rfl (by omega)
      apply Trace.pu [] (.assign (.plain rfl))
      apply Trace.pu [] (.assign (.plain rfl))
      exact .nil _
    · exact keepOK_of hk hn rfl
    refine WPA.ghost (Ghost.dataLe (l := 2) rfl (.rows (n := 1) (g := fun i => [Col.at (.ints .i64 []) i]) .nil)) ?_
    apply WPA.ret
    refine ⟨.inr rfl, ⟨_, (.cons (.cellD1 rfl rfl ty22 rfl) (.cons (.tmp rfl) (.cons (.tmp rfl) .nil))), ?_⟩, by simp [St.get]⟩
    have hF : g.formed ≠ 0 := by simpa using hc1
    have hlp : g.looped = false := by simp [Gr.looped, hF]
    have hcyc : g.cyc = [] := by unfold Gr.cyc; rw [hlp]; rfl
    rw [hcyc, hlp]
    rfl
  · have hF : g.formed = 0 := by simpa using hc1
    have hok := g.ok_of hF
    have hn3 := hok.n
    have hn4 := hok.m
    apply WPA.skip
    apply WPA.seq
    apply WPA.region
    · apply Trace.pu [] (.fieldAddr fl25_0 (.plain rfl) rfl)
      first | apply Trace.pu [_] (.loadLoc1D ty22 (.plain rfl) rfl rfl) | apply Trace.pu [_] (.loadLoc1 ty22 (.plain rfl) rfl rfl) | apply Trace.pu [] (.loadRp1 ty22 (.plain rfl) rfl) | apply Trace.pu [_] (.loadCol1 ty22 (.plain rfl) rfl rfl rfl (fun _ => by omega))
      apply Trace.pu [] (.len rfl Try.underlying22 (.plain rfl) rfl)
      apply Trace.alloc 5 [] (.data _) zo3 (cellsAs_data _) rfl
      first | apply Trace.storeD ty3 (.plain rfl) (.plain rfl) rfl rfl rfl (by simp [AV.oneB, single]) (Nat.le_of_ble_eq_true rfl) rfl | apply Trace.storeDA ty3 (.plain rfl) (.plain rfl) rfl rfl rfl (by simp [AV.oneB, single]) (Nat.le_of_ble_eq_true rfl) rfl | apply Trace.storeLoc ty3 (.plain rfl) (.plain rfl) rfl rfl rfl (by simp [AV.oneB, single]) (Nat.le_of_ble_eq_true rfl) rfl | apply Trace.storeRow ty3 (.plain rfl) (.plain rfl) rfl rfl rfl rfl (by decide) (by simp [AV.oneB, single]) rfl (by omega)
      exact .nil _
    · exact keepOK_of hk hn rfl
    apply WPA.seq
    apply WPA.region
    · first | apply Trace.pu [_] (.loadLoc1D ty3 (.plain rfl) rfl rfl) | apply Trace.pu [_] (.loadLoc1 ty3 (.plain rfl) rfl rfl) | apply Trace.pu [] (.loadRp1 ty3 (.plain rfl) rfl) | apply Trace.pu [_] (.loadCol1 ty3 (.plain rfl) rfl rfl rfl (fun _ => by omega))
      apply Trace.makeSlice 24 [] so22 by3 zo3 rfl (by decide) (.plain rfl) (.plain rfl) ⟨by omega, by omega⟩ (by omega) (by omega) rfl rfl
      apply Trace.pu [] (.assign (.plain rfl))
      exact .nil _
    · exact keepOK_of hk hn rfl
    apply WPA.seq
    apply WPA.region
    · first | apply Trace.pu [_] (.loadLoc1D ty3 (.plain rfl) rfl rfl) | apply Trace.pu [_] (.loadLoc1 ty3 (.plain rfl) rfl rfl) | apply Trace.pu [] (.loadRp1 ty3 (.plain rfl) rfl) | apply Trace.pu [_] (.loadCol1 ty3 (.plain rfl) rfl rfl rfl (fun _ => by omega))
      apply Trace.makeSlice 26 [] so22 by3 zo3 rfl (by decide) (.plain rfl) (.plain rfl) ⟨by omega, by omega⟩ (by omega) (by omega) rfl rfl
      apply Trace.pu [] (.assign (.plain rfl))
      exact .nil _
    · exact keepOK_of hk hn rfl
    apply WPA.seq
    apply WPA.region
    · apply Trace.alloc 8 [] (.data _) zo3 (cellsAs_data _) rfl
      first | apply Trace.storeD ty3 (.plain rfl) (.plain rfl) rfl rfl rfl (by simp [AV.oneB, single]) (Nat.le_of_ble_eq_true rfl) rfl | apply Trace.storeDA ty3 (.plain rfl) (.plain rfl) rfl rfl rfl (by simp [AV.oneB, single]) (Nat.le_of_ble_eq_true rfl) rfl | apply Trace.storeLoc ty3 (.plain rfl) (.plain rfl) rfl rfl rfl (by simp [AV.oneB, single]) (Nat.le_of_ble_eq_true rfl) rfl | apply Trace.storeRow ty3 (.plain rfl) (.plain rfl) rfl rfl rfl rfl (by decide) (by simp [AV.oneB, single]) rfl (by omega)
      exact .nil _
    · exact keepOK_of hk hn rfl
    apply WPA.seq
    apply WPA.label
    apply WPA.seq
    apply WPA.seq
    apply WPA.region
    · first | apply Trace.pu [_] (.loadLoc1D ty3 (.plain rfl) rfl rfl) | apply Trace.pu [_] (.loadLoc1 ty3 (.plain rfl) rfl rfl) | apply Trace.pu [] (.loadRp1 ty3 (.plain rfl) rfl) | apply Trace.pu [_] (.loadCol1 ty3 (.plain rfl) rfl rfl rfl (fun _ => by omega))
      apply Trace.pu [] (.arith (.plain rfl) (.plain rfl) rfl (fun _ => bd64 (by omega)))
      apply Trace.pu [] (.move (.plain rfl))
      exact .nil _
    · exact keepOK_of hk hn rfl
    apply WPA.block
    refine WPA.loop (σ := Nat) (fun i => [(sl 1, .av (.loc 1 0)), (sl 2, .av (.loc 2 0)), (sl 5, .av (.loc 5 0)), (sl 6, .av (.own 24 g.lat.length)), (sl 7, .av (.own 26 g.lat.length)), (sl 8, .av (.loc 8 0)), (sl 28, .av (iv .i64 (g.lat.length + 1))), (sl 29, .av (iv .i64 (i))), (bk 1, .blk (.data g.ds)), (bk 2, .blk (.data [.v (.slice none 0 0)])), (bk 5, .blk (.data [.v (.int .i64 g.lat.length)])), (bk 8, .blk (.data [.v (.int .i64 (g.stt i).last)])), (bk 24, .blk (.app 1 g.lat.length [.ints .i64 (g.stt i).far])), (bk 26, .blk (.app 1 g.lat.length [.ints .i64 (g.stt i).by_]))]) (fun i => i ≤ g.lat.length + 1 ∧ g.loud i) (fun i => g.lat.length + 1 - i) 0
      (St.le_cons rfl (St.le_cons rfl (St.le_cons rfl (St.le_cons rfl (St.le_cons rfl (St.le_cons rfl (St.le_cons rfl (St.le_cons rfl (St.le_cons rfl (St.le_cons rfl (St.le_cons rfl (St.le_cons rfl (St.le_cons rfl (St.le_cons rfl (St.le_nil _))))))))))))))) ⟨Nat.zero_le _, fun j h1 h2 => by omega⟩ fun k hk0 => ?_
    apply WPA.seq
    apply WPA.region
    · apply Trace.pu [] (.cmp (.plain rfl) (.plain rfl) rfl)
      exact .nil _
    · exact keepOK_of hk hn rfl
    apply WPA.seq
    refine WPA.cond rfl (fun hc2 => ?_) (fun hc2 => ?_)
    · have hkn : k ≤ g.lat.length := by
        have : (k : Int) < (g.lat.length : Int) + 1 := by simpa using hc2
        omega
      apply WPA.skip
      apply WPA.seq
      apply WPA.block
      apply WPA.seq
      apply WPA.region
      · first | apply Trace.storeD ty3 (.plain rfl) (.plain rfl) rfl rfl rfl (by simp [AV.oneB, single]) (Nat.le_of_ble_eq_true rfl) rfl | apply Trace.storeDA ty3 (.plain rfl) (.plain rfl) rfl rfl rfl (by simp [AV.oneB, single]) (Nat.le_of_ble_eq_true rfl) rfl | apply Trace.storeLoc ty3 (.plain rfl) (.plain rfl) rfl rfl rfl (by simp [AV.oneB, single]) (Nat.le_of_ble_eq_true rfl) rfl | apply Trace.storeRow ty3 (.plain rfl) (.plain rfl) rfl rfl rfl rfl (by decide) (by simp [AV.oneB, single]) rfl (by omega)
        exact .nil _
      · exact keepOK_of hk hn rfl
      apply WPA.seq
      apply WPA.seq
      apply WPA.region
      · apply Trace.pu [] (.fieldAddr fl25_1 (.plain rfl) rfl)
        first | apply Trace.pu [_] (.loadLoc1D ty23 (.plain rfl) rfl rfl) | apply Trace.pu [_] (.loadLoc1 ty23 (.plain rfl) rfl rfl) | apply Trace.pu [] (.loadRp1 ty23 (.plain rfl) rfl) | apply Trace.pu [_] (.loadCol1 ty23 (.plain rfl) rfl rfl rfl (fun _ => by omega))
        apply Trace.pu [] (.len rfl Try.underlying23 (.plain rfl) rfl)
        apply Trace.pu [] (.move (.plain rfl))
        exact .nil _
      · exact keepOK_of hk hn rfl
      apply WPA.block
      refine WPA.loop (σ := Nat) (fun i => [(sl 1, .av (.loc 1 0)), (sl 2, .av (.loc 2 0)), (sl 5, .av (.loc 5 0)), (sl 6, .av (.own 24 g.lat.length)), (sl 7, .av (.own 26 g.lat.length)), (sl 8, .av (.loc 8 0)), (sl 28, .av (iv .i64 (g.lat.length + 1))), (sl 29, .av (iv .i64 (k))), (sl 32, .av (.d (edgesD g.es))), (sl 33, .av (iv .i64 (g.es.length))), (sl 34, .av (iv .i64 (i))), (bk 1, .blk (.data g.ds)), (bk 2, .blk (.data [.v (.slice none 0 0)])), (bk 5, .blk (.data [.v (.int .i64 g.lat.length)])), (bk 8, .blk (.data [.v (.int .i64 (passTo g (g.stt k) i).last)])), (bk 24, .blk (.app 1 g.lat.length [.ints .i64 (passTo g (g.stt k) i).far])), (bk 26, .blk (.app 1 g.lat.length [.ints .i64 (passTo g (g.stt k) i).by_]))]) (fun i => i ≤ g.es.length) (fun i => g.es.length - i) 0
        (St.le_cons rfl (St.le_cons rfl (St.le_cons rfl (St.le_cons rfl (St.le_cons rfl (St.le_cons rfl (St.le_cons rfl (St.le_cons rfl (St.le_cons rfl (St.le_cons rfl (St.le_cons rfl (St.le_cons rfl (St.le_cons rfl (St.le_cons rfl (St.le_cons rfl (St.le_cons rfl (St.le_cons rfl (St.le_nil _)))))))))))))))))) (Nat.zero_le _) fun i hi => ?_
      apply WPA.seq
      apply WPA.region
      · apply Trace.pu [] (.cmp (.plain rfl) (.plain rfl) rfl)
        exact .nil _
      · exact keepOK_of hk hn rfl
      apply WPA.seq
      refine WPA.cond rfl (fun hc3 => ?_) (fun hc3 => ?_)
      · have hlt : i < g.es.length := by simpa using hc3
        obtain ⟨e, he⟩ : ∃ e, g.es.getD i default = e := ⟨_, rfl⟩
        have hem : e ∈ g.es := by rw [← he]; exact (Gr.edge hok hlt).1
        have heb := hok.es e hem
        have hP := Gr.W_low hok hem
        unfold Gr.W Gr.wt Gr.nn at hP
        obtain ⟨hl1, hl2, hl3, hl4⟩ := passTo_facts hok hkn hi
        have hlf := hl3 e.f.toNat
        have hlt3 := hl3 e.t.toNat
        have hla := g.lat_at hok e.f.toNat
        have hst := passTo_step (s := g.stt k) he
        apply WPA.skip
        apply WPA.seq
        apply WPA.block
        apply WPA.seq
        apply WPA.region
        · apply Trace.pu [] (.move (.plain rfl))
          apply Trace.pu [] ((Pure.indexRows el23 (.plain rfl) (.plain rfl) (fun _ => ⟨by omega, by omega⟩)).to (y := .rp e.ds) (by show AV.rp (g.es.getD i default).ds = _; rw [he]))
          first | apply Trace.pu [_] (.loadAllD ty43 (.plain rfl) rfl (by simp)) | apply Trace.pu [_] (.loadLocD ty43 (.plain rfl) rfl (fun _ => by simp)) | apply Trace.pu [_] (.loadLoc ty43 (.plain rfl) rfl (fun _ => Nat.le_of_ble_eq_true rfl)) | apply Trace.pu [] (.loadRp ty43 (.plain rfl) (fun _ => by decide)) | apply Trace.pu [] (.loadRp ty43 (.plain rfl) (fun _ => Nat.le_of_ble_eq_true rfl)) | apply Trace.pu [_] (.loadCol ty43 (.plain rfl) rfl rfl (fun _ => by decide) (fun _ => by omega)) | apply Trace.pu [_] (.loadArr ty43 (.plain rfl) rfl)
          apply Trace.alloc 10 [] (.data _) zo43 (cellsAs_data _) rfl
          apply Trace.pu [] (.assign (.plain rfl))
          first | apply Trace.storeD ty43 (.plain rfl) (.plain rfl) rfl rfl (by simp) (by simp [AV.oneB, single]) (by simp) (spliceL_all (by simp)) | apply Trace.storeD ty43 (.plain rfl) (.plain rfl) rfl rfl (by simp) (by simp [AV.oneB, single]) (by simp) rfl | apply Trace.storeDA ty43 (.plain rfl) (.plain rfl) rfl rfl (by simp) (by simp [AV.oneB, single]) (by simp) rfl | apply Trace.storeLoc ty43 (.plain rfl) (.plain rfl) rfl rfl (by simp) (by simp [AV.oneB, single]) (by simp) rfl | apply Trace.storeRow ty43 (.plain rfl) (.plain rfl) rfl rfl rfl rfl (by decide) (by simp [AV.oneB, single]) rfl (by omega)
          exact .nil _
        · exact keepOK_of hk hn rfl
        apply WPA.seq
        apply WPA.draw mixed
        · apply Trace.pu [] (.move (.plain rfl))
          apply Trace.pu [] (.fieldAddr fl43_0 (.plain rfl) rfl)
          first | apply Trace.pu [_] (.loadLoc1D ty3 (.plain rfl) rfl rfl) | apply Trace.pu [_] (.loadLoc1 ty3 (.plain rfl) rfl rfl) | apply Trace.pu [] (.loadRp1 ty3 (.plain rfl) rfl) | apply Trace.pu [_] (.loadCol1 ty3 (.plain rfl) rfl rfl rfl (fun _ => by omega))
          first | apply Trace.pu [] (.indexRows el22 (.plain rfl) (.plain rfl) (fun _ => ⟨by omega, by omega⟩)) | apply Trace.pu [] (.indexOwn el22 (.plain rfl) (.plain rfl) (fun _ => ⟨by omega, by omega⟩)) | apply Trace.pu [] (.indexSl el22 (.plain rfl) (.plain rfl) (fun _ => ⟨by omega, by omega⟩))
          first | apply Trace.pu [_] (.loadLoc1D ty3 (.plain rfl) rfl rfl) | apply Trace.pu [_] (.loadLoc1 ty3 (.plain rfl) rfl rfl) | apply Trace.pu [] (.loadRp1 ty3 (.plain rfl) rfl) | apply Trace.pu [_] (.loadCol1 ty3 (.plain rfl) rfl rfl rfl (fun _ => by omega))
          first | apply Trace.pu [_] (.loadLoc1D ty3 (.plain rfl) rfl rfl) | apply Trace.pu [_] (.loadLoc1 ty3 (.plain rfl) rfl rfl) | apply Trace.pu [] (.loadRp1 ty3 (.plain rfl) rfl) | apply Trace.pu [_] (.loadCol1 ty3 (.plain rfl) rfl rfl rfl (fun _ => by omega))
          apply Trace.pu [] (.arith (.plain rfl) (.plain rfl) rfl (fun _ => bd64 (by omega)))
          apply Trace.pu [] (.fieldAddr fl43_3 (.plain rfl) rfl)
          first | apply Trace.pu [_] (.loadLoc1D ty3 (.plain rfl) rfl rfl) | apply Trace.pu [_] (.loadLoc1 ty3 (.plain rfl) rfl rfl) | apply Trace.pu [] (.loadRp1 ty3 (.plain rfl) rfl) | apply Trace.pu [_] (.loadCol1 ty3 (.plain rfl) rfl rfl rfl (fun _ => by omega))
          apply Trace.pu [] (.fieldAddr fl25_0 (.plain rfl) rfl)
          first | apply Trace.pu [_] (.loadLoc1D ty22 (.plain rfl) rfl rfl) | apply Trace.pu [_] (.loadLoc1 ty22 (.plain rfl) rfl rfl) | apply Trace.pu [] (.loadRp1 ty22 (.plain rfl) rfl) | apply Trace.pu [_] (.loadCol1 ty22 (.plain rfl) rfl rfl rfl (fun _ => by omega))
          apply Trace.pu [] (.fieldAddr fl43_0 (.plain rfl) rfl)
          first | apply Trace.pu [_] (.loadLoc1D ty3 (.plain rfl) rfl rfl) | apply Trace.pu [_] (.loadLoc1 ty3 (.plain rfl) rfl rfl) | apply Trace.pu [] (.loadRp1 ty3 (.plain rfl) rfl) | apply Trace.pu [_] (.loadCol1 ty3 (.plain rfl) rfl rfl rfl (fun _ => by omega))
          first | apply Trace.pu [] (.indexRows el22 (.plain rfl) (.plain rfl) (fun _ => ⟨by omega, by omega⟩)) | apply Trace.pu [] (.indexOwn el22 (.plain rfl) (.plain rfl) (fun _ => ⟨by omega, by omega⟩)) | apply Trace.pu [] (.indexSl el22 (.plain rfl) (.plain rfl) (fun _ => ⟨by omega, by omega⟩))
          first | apply Trace.pu [_] (.loadLoc1D ty3 (.plain rfl) rfl rfl) | apply Trace.pu [_] (.loadLoc1 ty3 (.plain rfl) rfl rfl) | apply Trace.pu [] (.loadRp1 ty3 (.plain rfl) rfl) | apply Trace.pu [_] (.loadCol1 ty3 (.plain rfl) rfl rfl rfl (fun _ => by omega))
          apply Trace.pu [] (.arith (.plain rfl) (.plain rfl) rfl (fun _ => bd64 (by omega)))
          apply Trace.pu [] (.arith (.plain rfl) (.plain rfl) rfl (fun _ => bd64 (by omega)))
          apply Trace.pu [] (.arith (.plain rfl) (.plain rfl) rfl (fun _ => bd64 (by omega)))
          apply Trace.pu [] (.arith (.plain rfl) (.plain rfl) rfl (fun _ => bd64 (by omega)))
          apply Trace.pu [] (.assign (.plain rfl))
          exact .nil _
        · rfl
        · exact keepOK_of hk hn rfl
        apply WPA.seq
        apply WPA.region
        · apply Trace.pu [] (.move (.plain rfl))
          apply Trace.pu [] (.move (.plain rfl))
          apply Trace.pu [] (.fieldAddr fl43_1 (.plain rfl) rfl)
          first | apply Trace.pu [_] (.loadLoc1D ty3 (.plain rfl) rfl rfl) | apply Trace.pu [_] (.loadLoc1 ty3 (.plain rfl) rfl rfl) | apply Trace.pu [] (.loadRp1 ty3 (.plain rfl) rfl) | apply Trace.pu [_] (.loadCol1 ty3 (.plain rfl) rfl rfl rfl (fun _ => by omega))
          first | apply Trace.pu [] (.indexRows el22 (.plain rfl) (.plain rfl) (fun _ => ⟨by omega, by omega⟩)) | apply Trace.pu [] (.indexOwn el22 (.plain rfl) (.plain rfl) (fun _ => ⟨by omega, by omega⟩)) | apply Trace.pu [] (.indexSl el22 (.plain rfl) (.plain rfl) (fun _ => ⟨by omega, by omega⟩))
          first | apply Trace.pu [_] (.loadLoc1D ty3 (.plain rfl) rfl rfl) | apply Trace.pu [_] (.loadLoc1 ty3 (.plain rfl) rfl rfl) | apply Trace.pu [] (.loadRp1 ty3 (.plain rfl) rfl) | apply Trace.pu [_] (.loadCol1 ty3 (.plain rfl) rfl rfl rfl (fun _ => by omega))
          apply Trace.pu [] (.cmp (.plain rfl) (.plain rfl) rfl)
          exact .nil _
        · exact keepOK_of hk hn rfl
        refine WPA.cond rfl (fun hc4 => ?_) (fun hc4 => ?_)
        · have hup := hst
          rw [if_pos (of_decide_eq_true hc4)] at hup
          apply WPA.draw mixed
          · apply Trace.pu [] (.move (.plain rfl))
            apply Trace.pu [] (.fieldAddr fl43_1 (.plain rfl) rfl)
            first | apply Trace.pu [_] (.loadLoc1D ty3 (.plain rfl) rfl rfl) | apply Trace.pu [_] (.loadLoc1 ty3 (.plain rfl) rfl rfl) | apply Trace.pu [] (.loadRp1 ty3 (.plain rfl) rfl) | apply Trace.pu [_] (.loadCol1 ty3 (.plain rfl) rfl rfl rfl (fun _ => by omega))
            apply Trace.pu [] (.move (.plain rfl))
            apply Trace.pu [] (.fieldAddr fl43_1 (.plain rfl) rfl)
            first | apply Trace.pu [_] (.loadLoc1D ty3 (.plain rfl) rfl rfl) | apply Trace.pu [_] (.loadLoc1 ty3 (.plain rfl) rfl rfl) | apply Trace.pu [] (.loadRp1 ty3 (.plain rfl) rfl) | apply Trace.pu [_] (.loadCol1 ty3 (.plain rfl) rfl rfl rfl (fun _ => by omega))
            apply Trace.pu [] (.move (.plain rfl))
            apply Trace.pu [] (.move (.plain rfl))
            apply Trace.pu [] (.fieldAddr fl43_1 (.plain rfl) rfl)
            first | apply Trace.pu [_] (.loadLoc1D ty3 (.plain rfl) rfl rfl) | apply Trace.pu [_] (.loadLoc1 ty3 (.plain rfl) rfl rfl) | apply Trace.pu [] (.loadRp1 ty3 (.plain rfl) rfl) | apply Trace.pu [_] (.loadCol1 ty3 (.plain rfl) rfl rfl rfl (fun _ => by omega))
            first | apply Trace.pu [] (.indexRows el22 (.plain rfl) (.plain rfl) (fun _ => ⟨by omega, by omega⟩)) | apply Trace.pu [] (.indexOwn el22 (.plain rfl) (.plain rfl) (fun _ => ⟨by omega, by omega⟩)) | apply Trace.pu [] (.indexSl el22 (.plain rfl) (.plain rfl) (fun _ => ⟨by omega, by omega⟩))
            first | apply Trace.storeD ty3 (.plain rfl) (.plain rfl) rfl rfl rfl (by simp [AV.oneB, single]) (Nat.le_of_ble_eq_true rfl) rfl | apply Trace.storeDA ty3 (.plain rfl) (.plain rfl) rfl rfl rfl (by simp [AV.oneB, single]) (Nat.le_of_ble_eq_true rfl) rfl | apply Trace.storeLoc ty3 (.plain rfl) (.plain rfl) rfl rfl rfl (by simp [AV.oneB, single]) (Nat.le_of_ble_eq_true rfl) rfl | apply Trace.storeRow ty3 (.plain rfl) (.plain rfl) rfl rfl rfl rfl (by decide) (by simp [AV.oneB, single]) rfl (by omega)
            first | apply Trace.pu [] (.indexRows el22 (.plain rfl) (.plain rfl) (fun _ => ⟨by omega, by omega⟩)) | apply Trace.pu [] (.indexOwn el22 (.plain rfl) (.plain rfl) (fun _ => ⟨by omega, by omega⟩)) | apply Trace.pu [] (.indexSl el22 (.plain rfl) (.plain rfl) (fun _ => ⟨by omega, by omega⟩))
            first | apply Trace.storeD ty3 (.plain rfl) (.plain rfl) rfl rfl rfl (by simp [AV.oneB, single]) (Nat.le_of_ble_eq_true rfl) rfl | apply Trace.storeDA ty3 (.plain rfl) (.plain rfl) rfl rfl rfl (by simp [AV.oneB, single]) (Nat.le_of_ble_eq_true rfl) rfl | apply Trace.storeLoc ty3 (.plain rfl) (.plain rfl) rfl rfl rfl (by simp [AV.oneB, single]) (Nat.le_of_ble_eq_true rfl) rfl | apply Trace.storeRow ty3 (.plain rfl) (.plain rfl) rfl rfl rfl rfl (by decide) (by simp [AV.oneB, single]) rfl (by omega)
            first | apply Trace.storeD ty3 (.plain rfl) (.plain rfl) rfl rfl rfl (by simp [AV.oneB, single]) (Nat.le_of_ble_eq_true rfl) rfl | apply Trace.storeDA ty3 (.plain rfl) (.plain rfl) rfl rfl rfl (by simp [AV.oneB, single]) (Nat.le_of_ble_eq_true rfl) rfl | apply Trace.storeLoc ty3 (.plain rfl) (.plain rfl) rfl rfl rfl (by simp [AV.oneB, single]) (Nat.le_of_ble_eq_true rfl) rfl | apply Trace.storeRow ty3 (.plain rfl) (.plain rfl) rfl rfl rfl rfl (by decide) (by simp [AV.oneB, single]) rfl (by omega)
            exact .nil _
          · rfl
          · exact keepOK_of hk hn rfl
          apply WPA.region
          · apply Trace.pu [] (.arith (.plain rfl) (.plain rfl) rfl (fun _ => bd64 (by omega)))
            apply Trace.pu [] (.move (.plain rfl))
            exact .nil _
          · exact keepOK_of hk hn rfl
          exact ⟨i + 1, by omega, by omega, St.le_cons rfl (St.le_cons rfl (St.le_cons rfl (St.le_cons rfl (St.le_cons rfl (St.le_cons rfl (St.le_cons rfl (St.le_cons rfl (St.le_cons rfl (St.le_cons rfl (St.le_cons (slI (by omega)) (St.le_cons rfl (St.le_cons rfl (St.le_cons rfl (St.le_cons (datI (by rw [hup])) (St.le_cons (app_eq64 (by rw [hup])) (St.le_cons (app_eq64 (by rw [hup])) (St.le_nil _)))))))))))))))))⟩
        · have hup := hst
          rw [if_neg (of_decide_eq_false hc4)] at hup
          apply WPA.skip
          apply WPA.region
          · apply Trace.pu [] (.arith (.plain rfl) (.plain rfl) rfl (fun _ => bd64 (by omega)))
            apply Trace.pu [] (.move (.plain rfl))
            exact .nil _
          · exact keepOK_of hk hn rfl
          exact ⟨i + 1, by omega, by omega, St.le_cons rfl (St.le_cons rfl (St.le_cons rfl (St.le_cons rfl (St.le_cons rfl (St.le_cons rfl (St.le_cons rfl (St.le_cons rfl (St.le_cons rfl (St.le_cons rfl (St.le_cons (slI (by omega)) (St.le_cons rfl (St.le_cons rfl (St.le_cons rfl (St.le_cons (datI (by rw [hup])) (St.le_cons (app_eq64 (by rw [hup])) (St.le_cons (app_eq64 (by rw [hup])) (St.le_nil _)))))))))))))))))⟩
      · have him : i = g.es.length := by
          have : ¬ ((i : Int) < g.es.length) := by simpa using hc3
          omega
        subst him
        apply WPA.exit
        apply WPA.seq
        apply WPA.region
        · first | apply Trace.pu [_] (.loadLoc1D ty3 (.plain rfl) rfl rfl) | apply Trace.pu [_] (.loadLoc1 ty3 (.plain rfl) rfl rfl) | apply Trace.pu [] (.loadRp1 ty3 (.plain rfl) rfl) | apply Trace.pu [_] (.loadCol1 ty3 (.plain rfl) rfl rfl rfl (fun _ => by omega))
          apply Trace.pu [] (.cmp (.plain rfl) (.plain rfl) rfl)
          exact .nil _
        · exact keepOK_of hk hn rfl
        refine WPA.cond rfl (fun hc5 => ?_) (fun hc5 => ?_)
        · have hq : (g.stt (k + 1)).last < 0 := by
            show (passTo g (g.stt k) g.es.length).last < 0
            simpa using hc5
          have hrun := run_quiet hkn hk0.2 hq
          apply WPA.exit
          apply WPA.seq
          apply WPA.seq
          apply WPA.region
          · first | apply Trace.pu [_] (.loadLoc1D ty3 (.plain rfl) rfl rfl) | apply Trace.pu [_] (.loadLoc1 ty3 (.plain rfl) rfl rfl) | apply Trace.pu [] (.loadRp1 ty3 (.plain rfl) rfl) | apply Trace.pu [_] (.loadCol1 ty3 (.plain rfl) rfl rfl rfl (fun _ => by omega))
            apply Trace.pu [] (.cmp (.plain rfl) (.plain rfl) rfl)
            exact .nil _
          · exact keepOK_of hk hn rfl
          refine WPA.cond rfl (fun hc6 => ?_) (fun hc6 => ?_)
          · apply WPA.seq
            apply WPA.region
            · first | apply Trace.storeD ty22 (.plain rfl) (.plain rfl) rfl rfl rfl (by simp [AV.oneB, single]) (Nat.le_of_ble_eq_true rfl) rfl | apply Trace.storeDA ty22 (.plain rfl) (.plain rfl) rfl rfl rfl (by simp [AV.oneB, single]) (Nat.le_of_ble_eq_true rfl) rfl | apply Trace.storeLoc ty22 (.plain rfl) (.plain rfl) rfl rfl rfl (by simp [AV.oneB, single]) (Nat.le_of_ble_eq_true rfl) rfl | apply Trace.storeRow ty22 (.plain rfl) (.plain rfl) rfl rfl rfl rfl (by decide) (by simp [AV.oneB, single]) rfl (by omega)
              apply Trace.pu [] (.assign (.plain rfl))
              apply Trace.pu [] (.assign (.plain rfl))
              exact .nil _
            · exact keepOK_of hk hn rfl
            refine WPA.ghost (Ghost.dataLe (l := 2) rfl (.rows (n := 1) (g := fun i => [Col.at (.ints .i64 []) i]) .nil)) ?_
            apply WPA.ret
            refine ⟨.inr rfl, ⟨_, (.cons (.cellD1 rfl rfl ty22 rfl) (.cons (.tmp rfl) (.cons (.tmp rfl) .nil))), ?_⟩, by simp [St.get]⟩
            have hsh : g.short = false := by
              rcases run_short hok with ⟨_, hs, _⟩ | ⟨v, hv, _⟩
              · exact hs
              · rw [hrun] at hv; omega
            have hlp : g.looped = false := by simp [Gr.looped, hsh]
            have hcyc : g.cyc = [] := by unfold Gr.cyc; rw [hlp]; rfl
            rw [hcyc, hlp, hF]
            rfl
          · exact absurd hc6 (by rw [decide_eq_true (show (passTo g (g.stt k) g.es.length).last < 0 from hq)]; decide)
        · apply WPA.skip
          apply WPA.region
          · apply Trace.pu [] (.arith (.plain rfl) (.plain rfl) rfl (fun _ => bd64 (by omega)))
            apply Trace.pu [] (.move (.plain rfl))
            exact .nil _
          · exact keepOK_of hk hn rfl
          have hls : 0 ≤ (g.stt (k + 1)).last := by
            have : ¬ ((passTo g (g.stt k) g.es.length).last < 0) := by simpa using hc5
            show 0 ≤ (passTo g (g.stt k) g.es.length).last
            omega
          exact ⟨k + 1, ⟨by omega, fun j h1 h2 => by
            by_cases hj : j = k + 1
            · subst hj; exact hls
            · exact hk0.2 j h1 (by omega)⟩, by omega, St.le_cons rfl (St.le_cons rfl (St.le_cons rfl (St.le_cons rfl (St.le_cons rfl (St.le_cons rfl (St.le_cons rfl (St.le_cons (slI (by omega)) (St.le_cons rfl (St.le_cons rfl (St.le_cons rfl (St.le_cons rfl (St.le_cons rfl (St.le_cons rfl (St.le_nil _))))))))))))))⟩
    · have hkn : k = g.lat.length + 1 := by
        have : ¬ ((k : Int) < (g.lat.length : Int) + 1) := by simpa using hc2
        omega
      subst hkn
      have hrun := run_full hk0.2
      have hlast := hk0.2 (g.lat.length + 1) (by omega) (Nat.le_refl _)
      rw [← hrun] at hlast ⊢
      rcases run_short hok with ⟨hq, _⟩ | ⟨v, hv, hvn, hsh, hw, hcy⟩
      · omega
      rw [hv]
      have hbl : g.run.by_.length = g.lat.length := by rw [hrun]; exact (stt_facts hok).2
      have htop : g.top = v := by unfold Gr.top; rw [hv]; rfl
      have hknot : g.back g.run (g.lat.length + 1) v = g.knot := by unfold Gr.knot; rw [htop]
      apply WPA.exit
      apply WPA.seq
      apply WPA.seq
      apply WPA.region
      · first | apply Trace.pu [_] (.loadLoc1D ty3 (.plain rfl) rfl rfl) | apply Trace.pu [_] (.loadLoc1 ty3 (.plain rfl) rfl rfl) | apply Trace.pu [] (.loadRp1 ty3 (.plain rfl) rfl) | apply Trace.pu [_] (.loadCol1 ty3 (.plain rfl) rfl rfl rfl (fun _ => by omega))
        apply Trace.pu [] (.cmp (.plain rfl) (.plain rfl) rfl)
        exact .nil _
      · exact keepOK_of hk hn rfl
      refine WPA.cond rfl (fun hc7 => ?_) (fun hc7 => ?_)
      · exact absurd (of_decide_eq_true hc7) (by omega)
      · apply WPA.skip
        apply WPA.seq
        apply WPA.region
        · apply Trace.alloc 12 [] (.data _) zo3 (cellsAs_data _) rfl
          first | apply Trace.storeD ty3 (.plain rfl) (.plain rfl) rfl rfl rfl (by simp [AV.oneB, single]) (Nat.le_of_ble_eq_true rfl) rfl | apply Trace.storeDA ty3 (.plain rfl) (.plain rfl) rfl rfl rfl (by simp [AV.oneB, single]) (Nat.le_of_ble_eq_true rfl) rfl | apply Trace.storeLoc ty3 (.plain rfl) (.plain rfl) rfl rfl rfl (by simp [AV.oneB, single]) (Nat.le_of_ble_eq_true rfl) rfl | apply Trace.storeRow ty3 (.plain rfl) (.plain rfl) rfl rfl rfl rfl (by decide) (by simp [AV.oneB, single]) rfl (by omega)
          exact .nil _
        · exact keepOK_of hk hn rfl
        apply WPA.seq
        apply WPA.seq
        refine WPA.ghost (Ghost.freeze' (t := 7) (l := 26) rfl rfl) ?_
        apply WPA.region
        · first | apply Trace.pu [_] (.loadAllD ty25 (.plain rfl) rfl (by simp)) | apply Trace.pu [_] (.loadLocD ty25 (.plain rfl) rfl (fun _ => by simp)) | apply Trace.pu [_] (.loadLoc ty25 (.plain rfl) rfl (fun _ => Nat.le_of_ble_eq_true rfl)) | apply Trace.pu [] (.loadRp ty25 (.plain rfl) (fun _ => by decide)) | apply Trace.pu [] (.loadRp ty25 (.plain rfl) (fun _ => Nat.le_of_ble_eq_true rfl)) | apply Trace.pu [_] (.loadCol ty25 (.plain rfl) rfl rfl (fun _ => by decide) (fun _ => by omega)) | apply Trace.pu [_] (.loadArr ty25 (.plain rfl) rfl)
          apply Trace.pu [] (.move (.plain rfl))
          first | apply Trace.pu [_] (.loadLoc1D ty3 (.plain rfl) rfl rfl) | apply Trace.pu [_] (.loadLoc1 ty3 (.plain rfl) rfl rfl) | apply Trace.pu [] (.loadRp1 ty3 (.plain rfl) rfl) | apply Trace.pu [_] (.loadCol1 ty3 (.plain rfl) rfl rfl rfl (fun _ => by omega))
          apply Trace.cb [60, 61, 62] [] (callArgs0 (.cons (.plain rfl) (.cons (.plain rfl) (.cons (.plain rfl) .nil)))) (back1 g g.lat.length g.run.by_ (v : Nat)) en54 .nil rfl rfl
          exact .nil _
        · exact keepOK_of hk hn rfl
        apply WPA.block
        refine WPA.rangeFunc (L := 70) (ts := ts1) (ts' := ts1) (new := []) (ds := [bk 60, bk 61, bk 62, bk 1, bk 5, bk 8, bk 12]) rfl rfl rfl en68 (.cons rfl (.cons rfl (.cons rfl (.cons rfl (.nil))))) hn rfl rfl (by rw [hk]; decide) (by simp) (it1 hok hbl hw (fun k hkn => ?_)) (.cons rfl (.cons rfl (.cons rfl (.cons rfl (.cons rfl (.cons rfl (.cons rfl (.cons rfl (.nil))))))))) rfl rfl rfl rfl (by simp) ?_
        · have ho := hw k
          obtain ⟨hf1, hf2, hf3, hf4⟩ := bf_facts hok hbl ho
          have hg2 : 0 ≤ g.run.B (g.back g.run k v) := hf2
          have hg3 : (g.run.B (g.back g.run k v)).toNat < g.es.length := hf3
          refine ySpec_of (S1 := [(sl 13, .av (iv .i64 (g.run.B (g.back g.run k v)))), (sl 1, .av (.loc 1 0)), (sl 5, .av (.loc 5 0)), (sl 8, .av (.loc 8 0)), (sl 12, .av (.loc 12 0)), (bk 1, .blk (.data g.ds)), (bk 5, .blk (.data [.v (.int .i64 g.lat.length)])), (bk 8, .blk (.data [.v (.int .i64 (g.back g.run k v : Nat))])), (bk 12, .blk (.data [.v (.int .i64 (min k g.lat.length : Nat))]))]) rfl rfl rfl rfl rfl rfl rfl rfl ?_ ?_
          · intro E l hk hn
            apply WPA.region
            · apply Trace.pu [] (.assign (.plain rfl))
              exact .nil _
            · exact keepOK_of hk hn rfl
            exact ⟨rfl, St.le_cons rfl (St.le_cons rfl (St.le_cons rfl (St.le_cons rfl (St.le_cons rfl (St.le_cons rfl (St.le_cons rfl (St.le_cons rfl (St.le_cons rfl (St.le_nil _)))))))))⟩
          · intro E l hk hn
            apply WPA.block
            apply WPA.seq
            apply WPA.seq
            apply WPA.region
            · apply Trace.pu [] (.fieldAddr fl25_1 (.plain rfl) rfl)
              first | apply Trace.pu [_] (.loadLoc1D ty23 (.plain rfl) rfl rfl) | apply Trace.pu [_] (.loadLoc1 ty23 (.plain rfl) rfl rfl) | apply Trace.pu [] (.loadRp1 ty23 (.plain rfl) rfl) | apply Trace.pu [_] (.loadCol1 ty23 (.plain rfl) rfl rfl rfl (fun _ => by omega))
              apply Trace.pu [] (.move (.plain rfl))
              first | apply Trace.pu [] (.indexRows el23 (.plain rfl) (.plain rfl) (fun _ => ⟨by omega, by omega⟩)) | apply Trace.pu [] (.indexOwn el23 (.plain rfl) (.plain rfl) (fun _ => ⟨by omega, by omega⟩)) | apply Trace.pu [] (.indexSl el23 (.plain rfl) (.plain rfl) (fun _ => ⟨by omega, by omega⟩))
              apply Trace.pu [] (.fieldAddr fl43_0 (.plain rfl) rfl)
              first | apply Trace.pu [_] (.loadLoc1D ty3 (.plain rfl) rfl rfl) | apply Trace.pu [_] (.loadLoc1 ty3 (.plain rfl) rfl rfl) | apply Trace.pu [] (.loadRp1 ty3 (.plain rfl) rfl) | apply Trace.pu [_] (.loadCol1 ty3 (.plain rfl) rfl rfl rfl (fun _ => by omega))
              first | apply Trace.storeD ty3 (.plain rfl) (.plain rfl) rfl rfl rfl (by simp [AV.oneB, single]) (Nat.le_of_ble_eq_true rfl) rfl | apply Trace.storeDA ty3 (.plain rfl) (.plain rfl) rfl rfl rfl (by simp [AV.oneB, single]) (Nat.le_of_ble_eq_true rfl) rfl | apply Trace.storeLoc ty3 (.plain rfl) (.plain rfl) rfl rfl rfl (by simp [AV.oneB, single]) (Nat.le_of_ble_eq_true rfl) rfl | apply Trace.storeRow ty3 (.plain rfl) (.plain rfl) rfl rfl rfl rfl (by decide) (by simp [AV.oneB, single]) rfl (by omega)
              exact .nil _
            · exact keepOK_of hk hn rfl
            apply WPA.seq
            apply WPA.region
            · first | apply Trace.pu [_] (.loadLoc1D ty3 (.plain rfl) rfl rfl) | apply Trace.pu [_] (.loadLoc1 ty3 (.plain rfl) rfl rfl) | apply Trace.pu [] (.loadRp1 ty3 (.plain rfl) rfl) | apply Trace.pu [_] (.loadCol1 ty3 (.plain rfl) rfl rfl rfl (fun _ => by omega))
              first | apply Trace.pu [_] (.loadLoc1D ty3 (.plain rfl) rfl rfl) | apply Trace.pu [_] (.loadLoc1 ty3 (.plain rfl) rfl rfl) | apply Trace.pu [] (.loadRp1 ty3 (.plain rfl) rfl) | apply Trace.pu [_] (.loadCol1 ty3 (.plain rfl) rfl rfl rfl (fun _ => by omega))
              apply Trace.pu [] (.cmp (.plain rfl) (.plain rfl) rfl)
              exact .nil _
            · exact keepOK_of hk hn rfl
            refine WPA.cond rfl (fun hc8 => ?_) (fun hc8 => ?_)
            · apply WPA.exit
              have hkn' : k = g.lat.length := by
                have : ((min k g.lat.length : Nat) : Int) = (g.lat.length : Int) := of_decide_eq_true hc8
                omega
              exact ⟨congrArg some (if_pos hkn').symm, blks_of (.cons rfl (.cons rfl (.cons (datI hf4) (.cons (datI (by omega)) .nil))))⟩
            · apply WPA.skip
              apply WPA.region
              · first | apply Trace.pu [_] (.loadLoc1D ty3 (.plain rfl) rfl rfl) | apply Trace.pu [_] (.loadLoc1 ty3 (.plain rfl) rfl rfl) | apply Trace.pu [] (.loadRp1 ty3 (.plain rfl) rfl) | apply Trace.pu [_] (.loadCol1 ty3 (.plain rfl) rfl rfl rfl (fun _ => by omega))
                apply Trace.pu [] (.arith (.plain rfl) (.plain rfl) rfl (fun _ => bd64 (by omega)))
                first | apply Trace.storeD ty3 (.plain rfl) (.plain rfl) rfl rfl rfl (by simp [AV.oneB, single]) (Nat.le_of_ble_eq_true rfl) rfl | apply Trace.storeDA ty3 (.plain rfl) (.plain rfl) rfl rfl rfl (by simp [AV.oneB, single]) (Nat.le_of_ble_eq_true rfl) rfl | apply Trace.storeLoc ty3 (.plain rfl) (.plain rfl) rfl rfl rfl (by simp [AV.oneB, single]) (Nat.le_of_ble_eq_true rfl) rfl | apply Trace.storeRow ty3 (.plain rfl) (.plain rfl) rfl rfl rfl rfl (by decide) (by simp [AV.oneB, single]) rfl (by omega)
                exact .nil _
              · exact keepOK_of hk hn rfl
              have hkn' : k ≠ g.lat.length := by
                have : ¬ (((min k g.lat.length : Nat) : Int) = (g.lat.length : Int)) := of_decide_eq_false hc8
                omega
              exact ⟨congrArg some (if_neg hkn').symm, blks_of (.cons rfl (.cons rfl (.cons (datI hf4) (.cons (datI (by omega)) .nil))))⟩
        · unfold Cs1
          rw [hknot] at hcy ⊢
          obtain ⟨hp0, hpn, hpx, hmin⟩ := per_spec hcy
          refine WPA.weaken (T := [(sl 1, .av (.loc 1 0)), (sl 2, .av (.loc 2 0)), (sl 7, .av (.d (rowsD 1 g.lat.length [.ints .i64 g.run.by_]))), (sl 8, .av (.loc 8 0)), (bk 1, .blk (.data g.ds)), (bk 2, .blk (.data [.v (.slice none 0 0)])), (bk 8, .blk (.data [.v (.int .i64 (g.knot : Nat))]))]) ?_ (St.le_cons rfl (St.le_cons rfl (St.le_cons rfl (St.le_cons rfl (St.le_cons rfl (St.le_cons rfl (St.le_cons rfl (St.le_nil _))))))))
          apply WPA.seq
          apply WPA.seq
          refine WPA.ghost (Ghost.dataCells (l := 2) rfl rfl) ?_
          refine WPA.ghost (Ghost.cellNil (lb := 2) (j := 0) (l := 90) (cols := [.ints .i64 []]) (n := 1) rfl rfl rfl rfl (by rw [hk]; decide) rfl (by simp [Col.len]) rfl) ?_
          apply WPA.region
          · first | apply Trace.pu [_] (.loadAllD ty25 (.plain rfl) rfl (by simp)) | apply Trace.pu [_] (.loadLocD ty25 (.plain rfl) rfl (fun _ => by simp)) | apply Trace.pu [_] (.loadLoc ty25 (.plain rfl) rfl (fun _ => Nat.le_of_ble_eq_true rfl)) | apply Trace.pu [] (.loadRp ty25 (.plain rfl) (fun _ => by decide)) | apply Trace.pu [] (.loadRp ty25 (.plain rfl) (fun _ => Nat.le_of_ble_eq_true rfl)) | apply Trace.pu [_] (.loadCol ty25 (.plain rfl) rfl rfl (fun _ => by decide) (fun _ => by omega)) | apply Trace.pu [_] (.loadArr ty25 (.plain rfl) rfl)
            apply Trace.pu [] (.move (.plain rfl))
            first | apply Trace.pu [_] (.loadLoc1D ty3 (.plain rfl) rfl rfl) | apply Trace.pu [_] (.loadLoc1 ty3 (.plain rfl) rfl rfl) | apply Trace.pu [] (.loadRp1 ty3 (.plain rfl) rfl) | apply Trace.pu [_] (.loadCol1 ty3 (.plain rfl) rfl rfl rfl (fun _ => by omega))
            apply Trace.cb [63, 64, 65] [] (callArgs0 (.cons (.plain rfl) (.cons (.plain rfl) (.cons (.plain rfl) .nil)))) (back2 g g.lat.length g.run.by_ (g.knot : Nat)) en54 .nil rfl rfl
            exact .nil _
          · exact keepOK_of hk hn rfl
          apply WPA.block
          refine WPA.rangeFunc (L := 71) (ts := ts2) (ts' := ts2) (new := [90]) (ds := [bk 63, bk 64, bk 65, bk 1, bk 8, bk 2, bk 90]) rfl rfl rfl en68 (.cons rfl (.cons rfl (.cons rfl (.nil)))) hn rfl rfl (by rw [hk]; decide) (by simp) (it2 hok hbl hp0 hpx hmin hcy.way (fun k hkp => ?_)) (.cons rfl (.cons rfl (.cons rfl (.cons rfl (.cons rfl (.cons rfl (.cons rfl (.cons rfl (.nil))))))))) rfl rfl rfl rfl (by rw [hk]; simp) ?_
          · have ho := hcy.way k
            obtain ⟨hf1, hf2, hf3, hf4⟩ := bf_facts hok hbl ho
            have hg2 : 0 ≤ g.run.B (g.back g.run k g.knot) := hf2
            have hg3 : (g.run.B (g.back g.run k g.knot)).toNat < g.es.length := hf3
            refine ySpec_of (S1 := [(sl 14, .av (iv .i64 (g.run.B (g.back g.run k g.knot)))), (sl 1, .av (.loc 1 0)), (sl 8, .av (.loc 8 0)), (sl 2, .av (.loc 2 0)), (bk 1, .blk (.data g.ds)), (bk 8, .blk (.data [.v (.int .i64 g.knot)])), (bk 2, .blk (.cells [.own 90 k])), (bk 90, .blk (.app 1 k [.ints .i64 (gone g g.run g.knot k)]))]) rfl rfl rfl rfl rfl rfl rfl rfl ?_ ?_
            · intro E l hk hn
              apply WPA.region
              · apply Trace.pu [] (.assign (.plain rfl))
                exact .nil _
              · exact keepOK_of hk hn rfl
              exact ⟨rfl, St.le_cons rfl (St.le_cons rfl (St.le_cons rfl (St.le_cons rfl (St.le_cons rfl (St.le_cons rfl (St.le_cons rfl (St.le_cons rfl (St.le_nil _))))))))⟩
            · intro E l hk hn
              apply WPA.block
              apply WPA.seq
              apply WPA.region
              · first | apply Trace.pu [_] (.loadLoc1D ty22 (.plain rfl) rfl rfl) | apply Trace.pu [_] (.loadLoc1 ty22 (.plain rfl) rfl rfl) | apply Trace.pu [] (.loadRp1 ty22 (.plain rfl) rfl) | apply Trace.pu [_] (.loadCol1 ty22 (.plain rfl) rfl rfl rfl (fun _ => by omega))
                apply Trace.pu [] (.move (.plain rfl))
                apply Trace.buildSlice 106 [] so22 zo3 rfl (by decide) (by decide) (.cons (.plain rfl) rfl rfl (Nat.le_of_ble_eq_true rfl) (.nil _ _)) rfl rfl rfl
                apply Trace.append 107 [bk 90, bk 106, sl 104, sl 106] ap22 kd22 (by decide) (.own (.plain rfl) rfl) (.own (.plain rfl) rfl) (Col.ones rfl) (labs_ok rfl) (by omega) (by omega) rfl rfl
                first | apply Trace.storeD ty22 (.plain rfl) (.plain rfl) rfl rfl rfl (by simp [AV.oneB, single]) (Nat.le_of_ble_eq_true rfl) rfl | apply Trace.storeDA ty22 (.plain rfl) (.plain rfl) rfl rfl rfl (by simp [AV.oneB, single]) (Nat.le_of_ble_eq_true rfl) rfl | apply Trace.storeLoc ty22 (.plain rfl) (.plain rfl) rfl rfl rfl (by simp [AV.oneB, single]) (Nat.le_of_ble_eq_true rfl) rfl | apply Trace.storeRow ty22 (.plain rfl) (.plain rfl) rfl rfl rfl rfl (by decide) (by simp [AV.oneB, single]) rfl (by omega)
                exact .nil _
              · exact keepOK_of hk hn rfl
              apply WPA.seq
              refine WPA.ghost (Ghost.swap 90 107 (by rw [hk]; decide) (by rw [hk]; decide) rfl) ?_
              apply WPA.draw mixed
              · apply Trace.pu [] (.fieldAddr fl25_1 (.plain rfl) rfl)
                first | apply Trace.pu [_] (.loadLoc1D ty23 (.plain rfl) rfl rfl) | apply Trace.pu [_] (.loadLoc1 ty23 (.plain rfl) rfl rfl) | apply Trace.pu [] (.loadRp1 ty23 (.plain rfl) rfl) | apply Trace.pu [_] (.loadCol1 ty23 (.plain rfl) rfl rfl rfl (fun _ => by omega))
                apply Trace.pu [] (.move (.plain rfl))
                first | apply Trace.pu [] (.indexRows el23 (.plain rfl) (.plain rfl) (fun _ => ⟨by omega, by omega⟩)) | apply Trace.pu [] (.indexOwn el23 (.plain rfl) (.plain rfl) (fun _ => ⟨by omega, by omega⟩)) | apply Trace.pu [] (.indexSl el23 (.plain rfl) (.plain rfl) (fun _ => ⟨by omega, by omega⟩))
                apply Trace.pu [] (.fieldAddr fl43_0 (.plain rfl) rfl)
                first | apply Trace.pu [_] (.loadLoc1D ty3 (.plain rfl) rfl rfl) | apply Trace.pu [_] (.loadLoc1 ty3 (.plain rfl) rfl rfl) | apply Trace.pu [] (.loadRp1 ty3 (.plain rfl) rfl) | apply Trace.pu [_] (.loadCol1 ty3 (.plain rfl) rfl rfl rfl (fun _ => by omega))
                first | apply Trace.pu [_] (.loadLoc1D ty3 (.plain rfl) rfl rfl) | apply Trace.pu [_] (.loadLoc1 ty3 (.plain rfl) rfl rfl) | apply Trace.pu [] (.loadRp1 ty3 (.plain rfl) rfl) | apply Trace.pu [_] (.loadCol1 ty3 (.plain rfl) rfl rfl rfl (fun _ => by omega))
                apply Trace.pu [] (.cmp (.plain rfl) (.plain rfl) rfl)
                exact .nil _
              · rfl
              · exact keepOK_of hk hn rfl
              refine WPA.cond rfl (fun hc9 => ?_) (fun hc9 => ?_)
              · apply WPA.exit
                have hkx : g.back g.run (k + 1) g.knot = g.knot := by
                  have : (g.es.getD (g.run.B (g.back g.run k g.knot)).toNat default).f = ((g.knot : Nat) : Int) := of_decide_eq_true hc9
                  rw [show (g.es.getD (g.run.B (g.back g.run k g.knot)).toNat default).f = ((g.back g.run (k + 1) g.knot : Nat) : Int) from hf4] at this
                  omega
                exact ⟨congrArg some (if_pos hkx).symm, blks_of (.cons rfl (.cons rfl (.cons rfl (.cons (app_eq64 (by simp [gone, List.range_succ])) .nil))))⟩
              · apply WPA.skip
                have hkx : g.back g.run (k + 1) g.knot ≠ g.knot := by
                  have : ¬ ((g.es.getD (g.run.B (g.back g.run k g.knot)).toNat default).f = ((g.knot : Nat) : Int)) := of_decide_eq_false hc9
                  rw [show (g.es.getD (g.run.B (g.back g.run k g.knot)).toNat default).f = ((g.back g.run (k + 1) g.knot : Nat) : Int) from hf4] at this
                  omega
                exact ⟨congrArg some (if_neg hkx).symm, blks_of (.cons rfl (.cons rfl (.cons rfl (.cons (app_eq64 (by simp [gone, List.range_succ])) .nil))))⟩
          · refine WPA.weaken (T := [(sl 2, .av (.loc 2 0)), (bk 2, .blk (.cells [.own 90 g.per])), (bk 90, .blk (.app 1 g.per [.ints .i64 (gone g g.run g.knot g.per)]))]) ?_ (St.le_cons rfl (St.le_cons rfl (St.le_cons rfl (St.le_nil _))))
            apply WPA.seq
            apply WPA.region
            · first | apply Trace.pu [_] (.loadLoc1D ty22 (.plain rfl) rfl rfl) | apply Trace.pu [_] (.loadLoc1 ty22 (.plain rfl) rfl rfl) | apply Trace.pu [] (.loadRp1 ty22 (.plain rfl) rfl) | apply Trace.pu [_] (.loadCol1 ty22 (.plain rfl) rfl rfl rfl (fun _ => by omega))
              apply Trace.cb [] [bk 90] (callArgs0 (.cons (.plain rfl) .nil)) ((spec55 (gone g g.run g.knot g.per) g.per (by simp) (by simp; omega)).as 0 90 rfl rfl rfl rfl rfl rfl rfl) en55 (.cons rfl .nil) rfl rfl
              exact .nil _
            · exact keepOK_of hk hn rfl
            apply WPA.seq
            apply WPA.region
            · first | apply Trace.pu [_] (.loadLoc1D ty22 (.plain rfl) rfl rfl) | apply Trace.pu [_] (.loadLoc1 ty22 (.plain rfl) rfl rfl) | apply Trace.pu [] (.loadRp1 ty22 (.plain rfl) rfl) | apply Trace.pu [_] (.loadCol1 ty22 (.plain rfl) rfl rfl rfl (fun _ => by omega))
              first | apply Trace.storeD ty22 (.plain rfl) (.plain rfl) rfl rfl rfl (by simp [AV.oneB, single]) (Nat.le_of_ble_eq_true rfl) rfl | apply Trace.storeDA ty22 (.plain rfl) (.plain rfl) rfl rfl rfl (by simp [AV.oneB, single]) (Nat.le_of_ble_eq_true rfl) rfl | apply Trace.storeLoc ty22 (.plain rfl) (.plain rfl) rfl rfl rfl (by simp [AV.oneB, single]) (Nat.le_of_ble_eq_true rfl) rfl | apply Trace.storeRow ty22 (.plain rfl) (.plain rfl) rfl rfl rfl rfl (by decide) (by simp [AV.oneB, single]) rfl (by omega)
              apply Trace.pu [] (.assign (.plain rfl))
              apply Trace.pu [] (.assign (.plain rfl))
              exact .nil _
            · exact keepOK_of hk hn rfl
            refine WPA.ghost (Ghost.cellFreeze (lb := 2) (j := 0) (l := 90) (g := fun i => [Col.at (.ints .i64 (gone g g.run g.knot g.per).reverse) i]) rfl rfl rfl rfl (fun i hi => rfl) rfl) ?_
            apply WPA.ret
            refine ⟨.inr rfl, ⟨_, (.cons (.cell1 rfl rfl ty22 rfl) (.cons (.tmp rfl) (.cons (.tmp rfl) .nil))), ?_⟩, by simp [St.get]⟩
            have hlp : g.looped = true := by simp [Gr.looped, hsh, hF]
            have hcyc : g.cyc = (gone g g.run g.knot g.per).reverse := by unfold Gr.cyc; rw [if_pos hlp]
            have hgl : (gone g g.run g.knot g.per).reverse.length = g.per := by simp
            rw [hcyc, hlp, hF]
            simp only [intsD, rowsD, hgl]
            rfl

end Go.Proofs.Ytglokdfdogmmhaa


/- graph.Check; the reference's Formed. -/
namespace Go.Proofs.Ytglokdfdogmmhaa
open Go
set_option linter.unusedVariables false
set_option linter.unusedSimpArgs false
set_option maxRecDepth 10000

def Gr.check (g : Gr) : Int := if g.looped then 211 else g.formed
/-- soundpost/graph.Check -/
theorem spec25 (g : Gr) (hz : g.Sz) : FnSpec Try.prog 25 [g.av] [] (iv .i64 g.check) [] [] := by
  refine fnSpec_of (rs := [.tmp 2]) Try.func25 rfl rfl (Nat.le_of_ble_eq_true rfl) (by simp [St.get]) fun E hk hn => ?_
  apply WPA.seq
  apply WPA.region
  · first | apply Trace.boxD 1 [] (.plain rfl) rfl rfl | apply Trace.box 1 [] (.plain rfl) rfl rfl rfl
    apply Trace.pu [] (.assign (.plain rfl))
    exact .nil _
  · exact keepOK_of hk hn rfl
  apply WPA.seq
  apply WPA.region
  · first | apply Trace.pu [_] (.loadAllD ty25 (.plain rfl) rfl (by simp)) | apply Trace.pu [_] (.loadLocD ty25 (.plain rfl) rfl (fun _ => by simp)) | apply Trace.pu [_] (.loadLoc ty25 (.plain rfl) rfl (fun _ => Nat.le_of_ble_eq_true rfl)) | apply Trace.pu [] (.loadRp ty25 (.plain rfl) (fun _ => by decide)) | apply Trace.pu [] (.loadRp ty25 (.plain rfl) (fun _ => Nat.le_of_ble_eq_true rfl)) | apply Trace.pu [_] (.loadCol ty25 (.plain rfl) rfl rfl (fun _ => by decide) (fun _ => by omega)) | apply Trace.pu [_] (.loadArr ty25 (.plain rfl) rfl)
    apply Trace.ct (callArgs0 (.cons (.plain rfl) .nil)) (spec41 g hz) en41
    apply Trace.pu [] (.move (.plain rfl))
    apply Trace.pu [] (.extract (.plain rfl) rfl)
    apply Trace.pu [] (.extract (.plain rfl) rfl)
    apply Trace.pu [] (.extract (.plain rfl) rfl)
    apply Trace.pu [] (.assign (.plain rfl))
    apply Trace.pu [] (.assign (.plain rfl))
    apply Trace.pu [] (.assign (.plain rfl))
    exact .nil _
  · exact keepOK_of hk hn rfl
  apply WPA.seq
  apply WPA.seq
  apply WPA.region
  · apply Trace.pu [] (.move (.plain rfl))
    exact .nil _
  · exact keepOK_of hk hn rfl
  refine WPA.cond rfl (fun hc1 => ?_) (fun hc1 => ?_)
  · apply WPA.seq
    apply WPA.region
    · apply Trace.pu [] (.assign (.plain rfl))
      exact .nil _
    · exact keepOK_of hk hn rfl
    apply WPA.ret
    refine ⟨.inr rfl, ⟨_, (.cons (.tmp rfl) .nil), ?_⟩, by simp [St.get]⟩
    unfold Gr.check
    rw [if_pos hc1]
    rfl
  · apply WPA.skip
    apply WPA.seq
    apply WPA.region
    · apply Trace.pu [] (.move (.plain rfl))
      apply Trace.pu [] (.assign (.plain rfl))
      exact .nil _
    · exact keepOK_of hk hn rfl
    apply WPA.ret
    refine ⟨.inr rfl, ⟨_, (.cons (.tmp rfl) .nil), ?_⟩, by simp [St.get]⟩
    unfold Gr.check
    rw [if_neg (by rw [hc1]; decide)]
    rfl

end Go.Proofs.Ytglokdfdogmmhaa


/- The reference's Formed. -/
namespace Go.Proofs.Ytglokdfdogmmhaa
open Go
set_option linter.unusedVariables false
set_option linter.unusedSimpArgs false
set_option maxRecDepth 10000

theorem bif_or (a b : Bool) : (bif a then true else b) = (a || b) := by cases a <;> rfl
theorem latOk_not {x : Int} : (decide (x < 0) || decide (4096 < x)) = !latOk x := by
  unfold latOk
  by_cases h1 : x < 0 <;> by_cases h2 : 4096 < x <;> simp [h1, h2] <;> omega
theorem edgOk_not {n : Nat} {e : Edg} : (decide (e.f < 0) || decide ((n : Int) ≤ e.f) || decide (e.t < 0) || decide ((n : Int) ≤ e.t) || decide (e.w < 0) || decide (64 < e.w) || decide (e.d < 0) || decide (1048576 < e.d)) = !e.ok n := by
  rw [Bool.eq_iff_iff]
  simp only [Edg.ok, Bool.or_eq_true, decide_eq_true_eq, Bool.not_eq_true', Bool.and_eq_false_iff, decide_eq_false_iff_not]
  omega
/-- soundpost/soundpostref21.Formed -/
theorem spec36 (g : Gr) (hz : g.Sz) : FnSpec Try.prog 36 [g.av] [] (iv .i64 g.formed) [] [] := by
  have hn1 := hz.n
  have hn2 := hz.m
  refine fnSpec_of (rs := [.tmp 2]) Try.func36 rfl rfl (Nat.le_of_ble_eq_true rfl) (by simp [St.get]) fun E hk hn => ?_
  apply WPA.seq
  apply WPA.region
  · first | apply Trace.boxD 1 [] (.plain rfl) rfl rfl | apply Trace.box 1 [] (.plain rfl) rfl rfl rfl
    apply Trace.pu [] (.assign (.plain rfl))
    exact .nil _
  · exact keepOK_of hk hn rfl
  apply WPA.seq
  apply WPA.region
  · apply Trace.pu [] (.fieldAddr fl25_0 (.plain rfl) rfl)
    first | apply Trace.pu [_] (.loadLoc1D ty22 (.plain rfl) rfl rfl) | apply Trace.pu [_] (.loadLoc1 ty22 (.plain rfl) rfl rfl) | apply Trace.pu [] (.loadRp1 ty22 (.plain rfl) rfl) | apply Trace.pu [_] (.loadCol1 ty22 (.plain rfl) rfl rfl rfl (fun _ => by omega))
    apply Trace.pu [] (.len rfl Try.underlying22 (.plain rfl) rfl)
    apply Trace.pu [] (.assign (.plain rfl))
    exact .nil _
  · exact keepOK_of hk hn rfl
  apply WPA.seq
  apply WPA.seq
  apply WPA.region
  · apply Trace.pu [] (.move (.plain rfl))
    apply Trace.pu [] (.cmp (.plain rfl) (.plain rfl) rfl)
    apply Trace.pu [] (.move (.plain rfl))
    apply Trace.pg [] rfl (.fieldAddr fl25_1 (.plain rfl) rfl)
    first | apply Trace.pg [_] rfl (.loadLoc1D ty23 (.gd rfl (fun h => h)) rfl rfl) | apply Trace.pg [_] rfl (.loadLoc1 ty23 (.gd rfl (fun h => h)) rfl rfl) | apply Trace.pg [] rfl (.loadRp1 ty23 (.gd rfl (fun h => h)) rfl) | apply Trace.pg [_] rfl (.loadCol1 ty23 (.gd rfl (fun h => h)) rfl rfl rfl (fun _ => by omega))
    apply Trace.pg [] rfl (.len rfl Try.underlying23 (.gd rfl (fun h => h)) rfl)
    apply Trace.pg [] rfl (.cmp (.gd rfl (fun h => h)) (.plain rfl) rfl)
    apply Trace.pu [] (.pick (.plain rfl) (.plain rfl) (.gd rfl (by simp)))
    exact .nil _
  · exact keepOK_of hk hn rfl
  refine WPA.cond rfl (fun hc1 => ?_) (fun hc1 => ?_)
  · apply WPA.seq
    apply WPA.region
    · apply Trace.pu [] (.assign (.plain rfl))
      exact .nil _
    · exact keepOK_of hk hn rfl
    apply WPA.ret
    refine ⟨.inr rfl, ⟨_, (.cons (.tmp rfl) .nil), ?_⟩, by simp [St.get]⟩
    have hF : g.formed = 2 := by
      unfold Gr.formed
      rw [if_pos]
      revert hc1
      by_cases h1 : (g.lat.length : Int) > 4096
      · intro _; omega
      · simp [h1]; omega
    rw [hF]; rfl
  · apply WPA.skip
    apply WPA.seq
    apply WPA.seq
    apply WPA.region
    · apply Trace.pu [] (.assign (.plain rfl))
      exact .nil _
    · exact keepOK_of hk hn rfl
    apply WPA.block
    refine WPA.loop (σ := Nat) (fun i => [(sl 1, .av (.loc 1 0)), (sl 3, .av (iv .i64 (g.lat.length))), (sl 4, .av (iv .i64 (i))), (bk 1, .blk (.data g.ds))]) (fun i => i ≤ g.lat.length ∧ ∀ j, j < i → latOk (g.lat.getD j 0) = true) (fun i => g.lat.length - i) 0
      (St.le_cons rfl (St.le_cons rfl (St.le_cons rfl (St.le_cons rfl (St.le_nil _))))) ⟨Nat.zero_le _, fun j h => by omega⟩ fun i hi => ?_
    apply WPA.seq
    apply WPA.seq
    apply WPA.region
    · apply Trace.pu [] (.move (.plain rfl))
      apply Trace.pu [] (.move (.plain rfl))
      apply Trace.pu [] (.cmp (.plain rfl) (.plain rfl) rfl)
      exact .nil _
    · exact keepOK_of hk hn rfl
    refine WPA.cond rfl (fun hc2 => ?_) (fun hc2 => ?_)
    · have hlt : i < g.lat.length := by simpa using hc2
      apply WPA.skip
      apply WPA.seq
      apply WPA.block
      apply WPA.seq
      apply WPA.region
      · apply Trace.pu [] (.fieldAddr fl25_0 (.plain rfl) rfl)
        first | apply Trace.pu [_] (.loadLoc1D ty22 (.plain rfl) rfl rfl) | apply Trace.pu [_] (.loadLoc1 ty22 (.plain rfl) rfl rfl) | apply Trace.pu [] (.loadRp1 ty22 (.plain rfl) rfl) | apply Trace.pu [_] (.loadCol1 ty22 (.plain rfl) rfl rfl rfl (fun _ => by omega))
        apply Trace.pu [] (.move (.plain rfl))
        first | apply Trace.pu [] (.indexRows el22 (.plain rfl) (.plain rfl) (fun _ => ⟨by omega, by omega⟩)) | apply Trace.pu [] (.indexOwn el22 (.plain rfl) (.plain rfl) (fun _ => ⟨by omega, by omega⟩)) | apply Trace.pu [] (.indexSl el22 (.plain rfl) (.plain rfl) (fun _ => ⟨by omega, by omega⟩))
        first | apply Trace.pu [_] (.loadLoc1D ty3 (.plain rfl) rfl rfl) | apply Trace.pu [_] (.loadLoc1 ty3 (.plain rfl) rfl rfl) | apply Trace.pu [] (.loadRp1 ty3 (.plain rfl) rfl) | apply Trace.pu [_] (.loadCol1 ty3 (.plain rfl) rfl rfl rfl (fun _ => by omega))
        apply Trace.pu [] (.cmp (.plain rfl) (.plain rfl) rfl)
        apply Trace.pu [] (.move (.plain rfl))
        apply Trace.pg [] rfl (.fieldAddr fl25_0 (.plain rfl) rfl)
        first | apply Trace.pg [_] rfl (.loadLoc1D ty22 (.gd rfl (fun h => h)) rfl rfl) | apply Trace.pg [_] rfl (.loadLoc1 ty22 (.gd rfl (fun h => h)) rfl rfl) | apply Trace.pg [] rfl (.loadRp1 ty22 (.gd rfl (fun h => h)) rfl) | apply Trace.pg [_] rfl (.loadCol1 ty22 (.gd rfl (fun h => h)) rfl rfl rfl (fun _ => by omega))
        apply Trace.pg [] rfl (.move (.plain rfl))
        first | apply Trace.pg [] rfl (.indexRows el22 (.gd rfl (fun h => h)) (.gd rfl (fun h => h)) (fun _ => ⟨by omega, by omega⟩)) | apply Trace.pg [] rfl (.indexOwn el22 (.gd rfl (fun h => h)) (.gd rfl (fun h => h)) (fun _ => ⟨by omega, by omega⟩)) | apply Trace.pg [] rfl (.indexSl el22 (.gd rfl (fun h => h)) (.gd rfl (fun h => h)) (fun _ => ⟨by omega, by omega⟩))
        first | apply Trace.pg [_] rfl (.loadLoc1D ty3 (.gd rfl (fun h => h)) rfl rfl) | apply Trace.pg [_] rfl (.loadLoc1 ty3 (.gd rfl (fun h => h)) rfl rfl) | apply Trace.pg [] rfl (.loadRp1 ty3 (.gd rfl (fun h => h)) rfl) | apply Trace.pg [_] rfl (.loadCol1 ty3 (.gd rfl (fun h => h)) rfl rfl rfl (fun _ => by omega))
        apply Trace.pg [] rfl (.cmp (.gd rfl (fun h => h)) (.plain rfl) rfl)
        apply Trace.pu [] (.pick (.plain rfl) (.plain rfl) (.gd rfl (by simp)))
        exact .nil _
      · exact keepOK_of hk hn rfl
      refine WPA.cond rfl (fun hc3 => ?_) (fun hc3 => ?_)
      · have hc3 : (!latOk (g.lat.getD i 0)) = true := by
          rw [← latOk_not, ← bif_or]; exact hc3
        apply WPA.seq
        apply WPA.region
        · apply Trace.pu [] (.assign (.plain rfl))
          exact .nil _
        · exact keepOK_of hk hn rfl
        apply WPA.ret
        refine ⟨.inr rfl, ⟨_, (.cons (.tmp rfl) .nil), ?_⟩, by simp [St.get]⟩
        have hnl : ¬ (g.lat.length > 4096 ∨ g.es.length > 16384) := by
          revert hc1
          by_cases h1 : (g.lat.length : Int) > 4096
          · simp [h1]
          · simp [h1]; omega
        have hF : g.formed = 210 := by
          unfold Gr.formed
          rw [if_neg hnl, if_neg]
          simp only [Bool.and_eq_true, List.all_eq_true, not_and]
          intro hA
          have h2 := hA (g.lat.getD i 0) (by rw [getD_lt _ _ hlt]; exact List.getElem_mem hlt)
          rw [h2] at hc3; cases hc3
        rw [hF]; rfl
      · have hc3 : (!latOk (g.lat.getD i 0)) = false := by
          rw [← latOk_not, ← bif_or]; exact hc3
        apply WPA.skip
        apply WPA.region
        · apply Trace.pu [] (.move (.plain rfl))
          apply Trace.pu [] (.arith (.plain rfl) (.plain rfl) rfl (fun _ => bd64 (by omega)))
          apply Trace.pu [] (.assign (.plain rfl))
          exact .nil _
        · exact keepOK_of hk hn rfl
        refine ⟨i + 1, ⟨by omega, fun j h => ?_⟩, by omega, St.le_cons rfl (St.le_cons rfl (St.le_cons (slI (by omega)) (St.le_cons rfl (St.le_nil _))))⟩
        by_cases hj : j = i
        · subst hj; simpa using hc3
        · exact hi.2 j (by omega)
    · have hL : ∀ x ∈ g.lat, latOk x = true := fun x hx => by
        obtain ⟨j, hj, rfl⟩ := List.mem_iff_getElem.1 hx
        have := hi.2 j (by simp at hc2; omega)
        rwa [getD_lt _ _ hj] at this
      apply WPA.exit
      apply WPA.seq
      apply WPA.seq
      apply WPA.region
      · apply Trace.pu [] (.assign (.plain rfl))
        exact .nil _
      · exact keepOK_of hk hn rfl
      apply WPA.block
      refine WPA.loop (σ := Nat) (fun i => [(sl 1, .av (.loc 1 0)), (sl 3, .av (iv .i64 (g.lat.length))), (sl 5, .av (iv .i64 (i))), (bk 1, .blk (.data g.ds))]) (fun i => i ≤ g.es.length ∧ ∀ j, j < i → (g.es.getD j default).ok g.lat.length = true) (fun i => g.es.length - i) 0
        (St.le_cons rfl (St.le_cons rfl (St.le_cons rfl (St.le_cons rfl (St.le_nil _))))) ⟨Nat.zero_le _, fun j h => by omega⟩ fun i hi => ?_
      apply WPA.seq
      apply WPA.seq
      apply WPA.region
      · apply Trace.pu [] (.move (.plain rfl))
        apply Trace.pu [] (.fieldAddr fl25_1 (.plain rfl) rfl)
        first | apply Trace.pu [_] (.loadLoc1D ty23 (.plain rfl) rfl rfl) | apply Trace.pu [_] (.loadLoc1 ty23 (.plain rfl) rfl rfl) | apply Trace.pu [] (.loadRp1 ty23 (.plain rfl) rfl) | apply Trace.pu [_] (.loadCol1 ty23 (.plain rfl) rfl rfl rfl (fun _ => by omega))
        apply Trace.pu [] (.len rfl Try.underlying23 (.plain rfl) rfl)
        apply Trace.pu [] (.cmp (.plain rfl) (.plain rfl) rfl)
        exact .nil _
      · exact keepOK_of hk hn rfl
      refine WPA.cond rfl (fun hc4 => ?_) (fun hc4 => ?_)
      · have hlt2 : i < g.es.length := by simpa using hc4
        apply WPA.skip
        apply WPA.seq
        apply WPA.block
        apply WPA.seq
        apply WPA.region
        · apply Trace.pu [] (.fieldAddr fl25_1 (.plain rfl) rfl)
          first | apply Trace.pu [_] (.loadLoc1D ty23 (.plain rfl) rfl rfl) | apply Trace.pu [_] (.loadLoc1 ty23 (.plain rfl) rfl rfl) | apply Trace.pu [] (.loadRp1 ty23 (.plain rfl) rfl) | apply Trace.pu [_] (.loadCol1 ty23 (.plain rfl) rfl rfl rfl (fun _ => by omega))
          apply Trace.pu [] (.move (.plain rfl))
          first | apply Trace.pu [] (.indexRows el23 (.plain rfl) (.plain rfl) (fun _ => ⟨by omega, by omega⟩)) | apply Trace.pu [] (.indexOwn el23 (.plain rfl) (.plain rfl) (fun _ => ⟨by omega, by omega⟩)) | apply Trace.pu [] (.indexSl el23 (.plain rfl) (.plain rfl) (fun _ => ⟨by omega, by omega⟩))
          first | apply Trace.pu [_] (.loadAllD ty43 (.plain rfl) rfl (by simp)) | apply Trace.pu [_] (.loadLocD ty43 (.plain rfl) rfl (fun _ => by simp)) | apply Trace.pu [_] (.loadLoc ty43 (.plain rfl) rfl (fun _ => Nat.le_of_ble_eq_true rfl)) | apply Trace.pu [] (.loadRp ty43 (.plain rfl) (fun _ => by decide)) | apply Trace.pu [] (.loadRp ty43 (.plain rfl) (fun _ => Nat.le_of_ble_eq_true rfl)) | apply Trace.pu [_] (.loadCol ty43 (.plain rfl) rfl rfl (fun _ => by decide) (fun _ => by omega)) | apply Trace.pu [_] (.loadArr ty43 (.plain rfl) rfl)
          apply Trace.alloc 6 [] (.data _) zo43 (cellsAs_data _) rfl
          first | apply Trace.storeD ty43 (.plain rfl) (.plain rfl) rfl rfl (by simp) (by simp [AV.oneB, single]) (by simp) (spliceL_all (by simp)) | apply Trace.storeD ty43 (.plain rfl) (.plain rfl) rfl rfl (by simp) (by simp [AV.oneB, single]) (by simp) rfl | apply Trace.storeDA ty43 (.plain rfl) (.plain rfl) rfl rfl (by simp) (by simp [AV.oneB, single]) (by simp) rfl | apply Trace.storeLoc ty43 (.plain rfl) (.plain rfl) rfl rfl (by simp) (by simp [AV.oneB, single]) (by simp) rfl | apply Trace.storeRow ty43 (.plain rfl) (.plain rfl) rfl rfl rfl rfl (by decide) (by simp [AV.oneB, single]) rfl (by omega)
          exact .nil _
        · exact keepOK_of hk hn rfl
        apply WPA.seq
        apply WPA.region
        · apply Trace.pu [] (.fieldAddr fl43_0 (.plain rfl) rfl)
          first | apply Trace.pu [_] (.loadLoc1D ty3 (.plain rfl) rfl rfl) | apply Trace.pu [_] (.loadLoc1 ty3 (.plain rfl) rfl rfl) | apply Trace.pu [] (.loadRp1 ty3 (.plain rfl) rfl) | apply Trace.pu [_] (.loadCol1 ty3 (.plain rfl) rfl rfl rfl (fun _ => by omega))
          apply Trace.pu [] (.cmp (.plain rfl) (.plain rfl) rfl)
          apply Trace.pu [] (.move (.plain rfl))
          apply Trace.pg [] rfl (.fieldAddr fl43_0 (.plain rfl) rfl)
          first | apply Trace.pg [_] rfl (.loadLoc1D ty3 (.gd rfl (fun h => h)) rfl rfl) | apply Trace.pg [_] rfl (.loadLoc1 ty3 (.gd rfl (fun h => h)) rfl rfl) | apply Trace.pg [] rfl (.loadRp1 ty3 (.gd rfl (fun h => h)) rfl) | apply Trace.pg [_] rfl (.loadCol1 ty3 (.gd rfl (fun h => h)) rfl rfl rfl (fun _ => by omega))
          apply Trace.pg [] rfl (.move (.plain rfl))
          apply Trace.pg [] rfl (.cmp (.gd rfl (fun h => h)) (.gd rfl (fun h => h)) rfl)
          apply Trace.pu [] (.pick (.plain rfl) (.plain rfl) (.gd rfl (by simp)))
          apply Trace.pu [] (.move (.plain rfl))
          apply Trace.pg [] rfl (.fieldAddr fl43_1 (.plain rfl) rfl)
          first | apply Trace.pg [_] rfl (.loadLoc1D ty3 (.gd rfl (fun h => h)) rfl rfl) | apply Trace.pg [_] rfl (.loadLoc1 ty3 (.gd rfl (fun h => h)) rfl rfl) | apply Trace.pg [] rfl (.loadRp1 ty3 (.gd rfl (fun h => h)) rfl) | apply Trace.pg [_] rfl (.loadCol1 ty3 (.gd rfl (fun h => h)) rfl rfl rfl (fun _ => by omega))
          apply Trace.pg [] rfl (.cmp (.gd rfl (fun h => h)) (.plain rfl) rfl)
          apply Trace.pu [] (.pick (.plain rfl) (.plain rfl) (.gd rfl (by simp)))
          apply Trace.pu [] (.move (.plain rfl))
          apply Trace.pg [] rfl (.fieldAddr fl43_1 (.plain rfl) rfl)
          first | apply Trace.pg [_] rfl (.loadLoc1D ty3 (.gd rfl (fun h => h)) rfl rfl) | apply Trace.pg [_] rfl (.loadLoc1 ty3 (.gd rfl (fun h => h)) rfl rfl) | apply Trace.pg [] rfl (.loadRp1 ty3 (.gd rfl (fun h => h)) rfl) | apply Trace.pg [_] rfl (.loadCol1 ty3 (.gd rfl (fun h => h)) rfl rfl rfl (fun _ => by omega))
          apply Trace.pg [] rfl (.move (.plain rfl))
          apply Trace.pg [] rfl (.cmp (.gd rfl (fun h => h)) (.gd rfl (fun h => h)) rfl)
          apply Trace.pu [] (.pick (.plain rfl) (.plain rfl) (.gd rfl (by simp)))
          apply Trace.pu [] (.move (.plain rfl))
          apply Trace.pg [] rfl (.fieldAddr fl43_2 (.plain rfl) rfl)
          first | apply Trace.pg [_] rfl (.loadLoc1D ty3 (.gd rfl (fun h => h)) rfl rfl) | apply Trace.pg [_] rfl (.loadLoc1 ty3 (.gd rfl (fun h => h)) rfl rfl) | apply Trace.pg [] rfl (.loadRp1 ty3 (.gd rfl (fun h => h)) rfl) | apply Trace.pg [_] rfl (.loadCol1 ty3 (.gd rfl (fun h => h)) rfl rfl rfl (fun _ => by omega))
          apply Trace.pg [] rfl (.cmp (.gd rfl (fun h => h)) (.plain rfl) rfl)
          apply Trace.pu [] (.pick (.plain rfl) (.plain rfl) (.gd rfl (by simp)))
          apply Trace.pu [] (.move (.plain rfl))
          apply Trace.pg [] rfl (.fieldAddr fl43_2 (.plain rfl) rfl)
          first | apply Trace.pg [_] rfl (.loadLoc1D ty3 (.gd rfl (fun h => h)) rfl rfl) | apply Trace.pg [_] rfl (.loadLoc1 ty3 (.gd rfl (fun h => h)) rfl rfl) | apply Trace.pg [] rfl (.loadRp1 ty3 (.gd rfl (fun h => h)) rfl) | apply Trace.pg [_] rfl (.loadCol1 ty3 (.gd rfl (fun h => h)) rfl rfl rfl (fun _ => by omega))
          apply Trace.pg [] rfl (.cmp (.gd rfl (fun h => h)) (.plain rfl) rfl)
          apply Trace.pu [] (.pick (.plain rfl) (.plain rfl) (.gd rfl (by simp)))
          apply Trace.pu [] (.move (.plain rfl))
          apply Trace.pg [] rfl (.fieldAddr fl43_3 (.plain rfl) rfl)
          first | apply Trace.pg [_] rfl (.loadLoc1D ty3 (.gd rfl (fun h => h)) rfl rfl) | apply Trace.pg [_] rfl (.loadLoc1 ty3 (.gd rfl (fun h => h)) rfl rfl) | apply Trace.pg [] rfl (.loadRp1 ty3 (.gd rfl (fun h => h)) rfl) | apply Trace.pg [_] rfl (.loadCol1 ty3 (.gd rfl (fun h => h)) rfl rfl rfl (fun _ => by omega))
          apply Trace.pg [] rfl (.cmp (.gd rfl (fun h => h)) (.plain rfl) rfl)
          apply Trace.pu [] (.pick (.plain rfl) (.plain rfl) (.gd rfl (by simp)))
          apply Trace.pu [] (.move (.plain rfl))
          apply Trace.pg [] rfl (.fieldAddr fl43_3 (.plain rfl) rfl)
          first | apply Trace.pg [_] rfl (.loadLoc1D ty3 (.gd rfl (fun h => h)) rfl rfl) | apply Trace.pg [_] rfl (.loadLoc1 ty3 (.gd rfl (fun h => h)) rfl rfl) | apply Trace.pg [] rfl (.loadRp1 ty3 (.gd rfl (fun h => h)) rfl) | apply Trace.pg [_] rfl (.loadCol1 ty3 (.gd rfl (fun h => h)) rfl rfl rfl (fun _ => by omega))
          apply Trace.pg [] rfl (.cmp (.gd rfl (fun h => h)) (.plain rfl) rfl)
          apply Trace.pu [] (.pick (.plain rfl) (.plain rfl) (.gd rfl (by simp)))
          exact .nil _
        · exact keepOK_of hk hn rfl
        refine WPA.cond rfl (fun hc5 => ?_) (fun hc5 => ?_)
        · have hc5 : (!(g.es.getD i default).ok g.lat.length) = true := by
            rw [← edgOk_not]; simp only [← bif_or]; exact hc5
          apply WPA.seq
          apply WPA.region
          · apply Trace.pu [] (.assign (.plain rfl))
            exact .nil _
          · exact keepOK_of hk hn rfl
          apply WPA.ret
          refine ⟨.inr rfl, ⟨_, (.cons (.tmp rfl) .nil), ?_⟩, by simp [St.get]⟩
          have hnl : ¬ (g.lat.length > 4096 ∨ g.es.length > 16384) := by
            revert hc1
            by_cases h1 : (g.lat.length : Int) > 4096
            · simp [h1]
            · simp [h1]; omega
          have hF : g.formed = 210 := by
            unfold Gr.formed
            rw [if_neg hnl, if_neg]
            simp only [Bool.and_eq_true, List.all_eq_true, not_and]
            intro _ hA
            have h2 := hA (g.es.getD i default) (by rw [getD_lt _ _ hlt2]; exact List.getElem_mem hlt2)
            rw [h2] at hc5; cases hc5
          rw [hF]; rfl
        · have hc5 : (!(g.es.getD i default).ok g.lat.length) = false := by
            rw [← edgOk_not]; simp only [← bif_or]; exact hc5
          apply WPA.skip
          apply WPA.region
          · apply Trace.pu [] (.move (.plain rfl))
            apply Trace.pu [] (.arith (.plain rfl) (.plain rfl) rfl (fun _ => bd64 (by omega)))
            apply Trace.pu [] (.assign (.plain rfl))
            exact .nil _
          · exact keepOK_of hk hn rfl
          refine ⟨i + 1, ⟨by omega, fun j h => ?_⟩, by omega, St.le_cons rfl (St.le_cons rfl (St.le_cons (slI (by omega)) (St.le_cons rfl (St.le_nil _))))⟩
          by_cases hj : j = i
          · subst hj; simpa using hc5
          · exact hi.2 j (by omega)
      · apply WPA.exit
        apply WPA.seq
        apply WPA.region
        · apply Trace.pu [] (.assign (.plain rfl))
          exact .nil _
        · exact keepOK_of hk hn rfl
        apply WPA.ret
        refine ⟨.inr rfl, ⟨_, (.cons (.tmp rfl) .nil), ?_⟩, by simp [St.get]⟩
        have hnl : ¬ (g.lat.length > 4096 ∨ g.es.length > 16384) := by
          revert hc1
          by_cases h1 : (g.lat.length : Int) > 4096
          · simp [h1]
          · simp [h1]; omega
        have hF : g.formed = 0 := by
          unfold Gr.formed
          rw [if_neg hnl, if_pos]
          simp only [Bool.and_eq_true, List.all_eq_true]
          refine ⟨hL, fun e he => ?_⟩
          obtain ⟨j, hj, rfl⟩ := List.mem_iff_getElem.1 he
          have := hi.2 j (by simp at hc4; omega)
          rwa [getD_lt _ _ hj] at this
        rw [hF]; rfl

end Go.Proofs.Ytglokdfdogmmhaa


/- The reference's Short. -/
namespace Go.Proofs.Ytglokdfdogmmhaa
open Go
set_option linter.unusedVariables false
set_option linter.unusedSimpArgs false
set_option maxRecDepth 10000
set_option maxHeartbeats 2000000

/-- The matrix while it is made: i rows. -/
abbrev Wm (n i : Nat) : List (List Int) := List.replicate i (List.replicate n FAR)
abbrev cellsM (n i : Nat) : List AV := matC (Wm n i) ++ List.replicate (n - i) nilS
theorem rowSet {n k : Nat} (h : k < n) : (List.replicate k FAR ++ List.replicate (n - k) 0).set k FAR = List.replicate (k + 1) FAR ++ List.replicate (n - (k + 1)) 0 := by
  obtain ⟨d, hd⟩ : ∃ d, n - k = d + 1 := ⟨n - k - 1, by omega⟩
  rw [hd, show n - (k + 1) = d by omega, List.set_append, if_neg (by simp), List.length_replicate, Nat.sub_self]
  have e : List.replicate (d + 1) (0 : Int) = 0 :: List.replicate d 0 := List.replicate_succ
  have e2 : List.replicate (k + 1) FAR = List.replicate k FAR ++ [FAR] := List.replicate_succ'
  rw [e, e2, List.set_cons_zero, List.append_assoc]
  rfl
theorem cellsM_length {n i : Nat} (h : i ≤ n) : (cellsM n i).length = n := by simp [matC_length]; omega
theorem cellsM_ment {n i l : Nat} (hl : l < 400) : ∀ x ∈ cellsM n i, ¬ Ment x l := by
  intro x hx hm
  rcases List.mem_append.1 hx with hx | hx
  · exact matC_ment hl x hx hm
  · have := (List.mem_replicate.1 hx).2
    subst this; cases hm
theorem cellsM_out {n i : Nat} : ∀ x ∈ (cellsM n i).set i (.own 26 n), ¬ Ment x (inn i) := by
  intro x hx hm
  rcases List.mem_or_eq_of_mem_set hx with hx | rfl
  · rcases List.mem_append.1 hx with hx | hx
    · exact matC_out (by simp) x hx hm
    · have := (List.mem_replicate.1 hx).2
      subst this; cases hm
  · generalize he : inn i = l at hm
    cases hm with
    | own => unfold inn at he; omega
theorem le_pushM {S : St} {n i : Nat} (h : (fam (Wm n i)).le S) : (fam (Wm n (i + 1))).le ((bk (inn i), .blk (.app 1 n [.ints .i64 (List.replicate n FAR)])) :: S) := by
  have e : Wm n (i + 1) = Wm n i ++ [List.replicate n FAR] := List.replicate_succ'
  rw [e]
  have := le_push (r := List.replicate n FAR) (len := n) h (by simp)
  rwa [show (Wm n i).length = i by simp] at this
theorem cellsM_succ {n i : Nat} (h : i < n) : ((cellsM n i).set i (.own 26 n)).set i (.own (inn i) n) = cellsM n (i + 1) := by
  have hm : matC (Wm n (i + 1)) = matC (Wm n i) ++ [.own (inn i) n] := by
    simp only [matC, Wm, List.length_replicate, List.range_succ, List.map_append, List.map_cons, List.map_nil]
    congr 1
    · refine List.map_congr_left fun j hj => ?_
      have : j < i := by simpa using hj
      simp [List.getD_eq_getElem?_getD, List.getElem?_replicate, this, Nat.lt_succ_of_lt this]
    · simp [List.getD_eq_getElem?_getD, List.getElem?_replicate]
  rw [List.set_set]
  unfold cellsM
  rw [hm, List.set_append, if_neg (by simp [matC_length])]
  obtain ⟨d, hd⟩ : ∃ d, n - i = d + 1 := ⟨n - i - 1, by omega⟩
  rw [hd, show n - (i + 1) = d by omega]
  simp [matC_length, List.replicate_succ]
theorem matC_set {rows : List (List Int)} {i : Nat} {r : List Int} (h : r.length = (rows.getD i []).length) : matC rows = matC (rows.set i r) := by
  simp only [matC, List.length_set]
  refine List.map_congr_left fun j hj => ?_
  have hj : j < rows.length := by simpa using hj
  by_cases hij : i = j
  · subst hij
    simp [List.getD_eq_getElem?_getD, hj] at h ⊢
    exact h.symm
  · simp [List.getD_eq_getElem?_getD, List.getElem?_set_ne hij]
theorem rowEq {m : Nat} {xs ys : List Int} (h : xs = ys) : some (Cont.blk (.app 1 m [.ints .i64 xs])) = some (Cont.blk (.app 1 m [.ints .i64 ys])) := by rw [h]
/-- soundpost/soundpostref21.Short -/
theorem spec37 (g : Gr) (hok : g.OK) : FnSpec Try.prog 37 [g.av] [] (bv g.short) [] [] := by
  have hn1 := hok.n
  have hn2 := hok.m
  refine fnSpec_of (rs := [.tmp 2]) Try.func37 rfl rfl (Nat.le_of_ble_eq_true rfl) (by simp [St.get]) fun E hk hn => ?_
  apply WPA.seq
  apply WPA.region
  · first | apply Trace.boxD 1 [] (.plain rfl) rfl rfl | apply Trace.box 1 [] (.plain rfl) rfl rfl rfl
    apply Trace.pu [] (.assign (.plain rfl))
    exact .nil _
  · exact keepOK_of hk hn rfl
  apply WPA.seq
  apply WPA.region
  · apply Trace.pu [] (.fieldAddr fl25_0 (.plain rfl) rfl)
    first | apply Trace.pu [_] (.loadLoc1D ty22 (.plain rfl) rfl rfl) | apply Trace.pu [_] (.loadLoc1 ty22 (.plain rfl) rfl rfl) | apply Trace.pu [] (.loadRp1 ty22 (.plain rfl) rfl) | apply Trace.pu [_] (.loadCol1 ty22 (.plain rfl) rfl rfl rfl (fun _ => by omega))
    apply Trace.pu [] (.len rfl Try.underlying22 (.plain rfl) rfl)
    apply Trace.pu [] (.assign (.plain rfl))
    exact .nil _
  · exact keepOK_of hk hn rfl
  apply WPA.seq
  apply WPA.region
  · apply Trace.pu [] (.move (.plain rfl))
    apply Trace.makeSlice 17 [] so28 by22 zo22 rfl (by decide) (.plain rfl) (.plain rfl) ⟨by omega, by omega⟩ (by omega) (by omega) rfl rfl
    apply Trace.pu [] (.assign (.plain rfl))
    exact .nil _
  · exact keepOK_of hk hn rfl
  apply WPA.seq
  apply WPA.seq
  refine WPA.ghost (Ghost.toAppv (l := 17) rfl (by simp)) ?_
  apply WPA.region
  · apply Trace.pu [] (.assign (.plain rfl))
    exact .nil _
  · exact keepOK_of hk hn rfl
  apply WPA.block
  refine WPA.loop (σ := Nat) (fun i => (sl 1, .av (.loc 1 0)) :: (sl 3, .av (iv .i64 (g.lat.length))) :: (sl 4, .av (.own 17 g.lat.length)) :: (sl 5, .av (iv .i64 (i))) :: (bk 1, .blk (.data g.ds)) :: (bk 17, .blk (.appv (cellsM g.lat.length i))) :: fam (Wm g.lat.length i)) (fun i => i ≤ g.lat.length) (fun i => g.lat.length - i) 0
    (St.le_cons rfl (St.le_cons rfl (St.le_cons rfl (St.le_cons rfl (St.le_cons rfl (St.le_cons (appv_eq (by simp [matC, cellsM])) ((St.le_nil _)))))))) (Nat.zero_le _) fun i hi => ?_
  apply WPA.seq
  apply WPA.seq
  apply WPA.region
  · apply Trace.pu [] (.move (.plain rfl))
    apply Trace.pu [] (.move (.plain rfl))
    apply Trace.pu [] (.cmp (.plain rfl) (.plain rfl) rfl)
    exact .nil _
  · exact keepOK_of hk hn rfl
  refine WPA.cond rfl (fun hc1 => ?_) (fun hc1 => ?_)
  · have hlt : i < g.lat.length := by simpa using hc1
    apply WPA.skip
    apply WPA.seq
    apply WPA.block
    apply WPA.seq
    apply WPA.region
    · apply Trace.pu [] (.move (.plain rfl))
      apply Trace.pu [] (.move (.plain rfl))
      apply Trace.pu [] (.move (.plain rfl))
      apply Trace.makeSlice 26 [] so22 by3 zo3 rfl (by decide) (.plain rfl) (.plain rfl) ⟨by omega, by omega⟩ (by omega) (by omega) rfl (freshB_of (fun l hl => by
          simp only [List.mem_singleton] at hl; subst hl
          repeat (first | exact nm_fam | refine nm_appv (cellsM_ment (by decide)) ?_ | refine nm_cons rfl ?_)))
      first | apply Trace.pu [] (.indexRows el28 (.plain rfl) (.plain rfl) (fun _ => ⟨by omega, by omega⟩)) | apply Trace.pu [] (.indexOwn el28 (.plain rfl) (.plain rfl) (fun _ => ⟨by omega, by omega⟩)) | apply Trace.pu [] (.indexSl el28 (.plain rfl) (.plain rfl) (fun _ => ⟨by omega, by omega⟩))
      apply Trace.storeRowV ty22 (.plain rfl) (.plain rfl) rfl rfl rfl (by rw [cellsM_length (by omega)]; simpa using hlt) rfl
      exact .nil _
    · exact keepOK_of hk hn rfl
    apply WPA.seq
    apply WPA.region
    · apply Trace.pu [] (.assign (.plain rfl))
      exact .nil _
    · exact keepOK_of hk hn rfl
    apply WPA.block
    refine WPA.loop (σ := Nat) (fun k => (sl 1, .av (.loc 1 0)) :: (sl 3, .av (iv .i64 (g.lat.length))) :: (sl 4, .av (.own 17 g.lat.length)) :: (sl 5, .av (iv .i64 (i))) :: (sl 6, .av (iv .i64 (k))) :: (bk 1, .blk (.data g.ds)) :: (bk 17, .blk (.appv ((cellsM g.lat.length i).set i (.own 26 g.lat.length)))) :: (bk 26, .blk (.app 1 g.lat.length [.ints .i64 (List.replicate k FAR ++ List.replicate (g.lat.length - k) 0)])) :: fam (Wm g.lat.length i)) (fun k => k ≤ g.lat.length) (fun k => g.lat.length - k) 0
      (St.le_cons rfl (St.le_cons rfl (St.le_cons rfl (St.le_cons rfl (St.le_cons rfl (St.le_cons rfl (St.le_cons rfl (St.le_cons (rowEq (by simp)) ((by repeat (first | exact St.le_refl _ | refine le_skip ?_ rfl))))))))))) (Nat.zero_le _) fun k hk2 => ?_
    apply WPA.seq
    apply WPA.seq
    apply WPA.region
    · apply Trace.pu [] (.move (.plain rfl))
      apply Trace.pu [] (.move (.plain rfl))
      apply Trace.pu [] (.cmp (.plain rfl) (.plain rfl) rfl)
      exact .nil _
    · exact keepOK_of hk hn rfl
    refine WPA.cond rfl (fun hc2 => ?_) (fun hc2 => ?_)
    · have hlt2 : k < g.lat.length := by simpa using hc2
      have hcell : ((cellsM g.lat.length i).set i (.own 26 g.lat.length))[((i : Nat) : Int).toNat]? = some (.own 26 g.lat.length) := by
        rw [Int.toNat_natCast, List.getElem?_set_self (by rw [cellsM_length (by omega)]; exact hlt)]
      apply WPA.skip
      apply WPA.seq
      apply WPA.block
      apply WPA.region
      · apply Trace.pu [] (.move (.plain rfl))
        apply Trace.pu [] (.move (.plain rfl))
        first | apply Trace.pu [] (.indexRows el28 (.plain rfl) (.plain rfl) (fun _ => ⟨by omega, by omega⟩)) | apply Trace.pu [] (.indexOwn el28 (.plain rfl) (.plain rfl) (fun _ => ⟨by omega, by omega⟩)) | apply Trace.pu [] (.indexSl el28 (.plain rfl) (.plain rfl) (fun _ => ⟨by omega, by omega⟩))
        apply Trace.pu [17] (.loadRowV ty22 (.plain rfl) rfl (fun _ => hcell))
        apply Trace.pu [] (.move (.plain rfl))
        first | apply Trace.pu [] (.indexRows el22 (.plain rfl) (.plain rfl) (fun _ => ⟨by omega, by omega⟩)) | apply Trace.pu [] (.indexOwn el22 (.plain rfl) (.plain rfl) (fun _ => ⟨by omega, by omega⟩)) | apply Trace.pu [] (.indexSl el22 (.plain rfl) (.plain rfl) (fun _ => ⟨by omega, by omega⟩))
        first | apply Trace.storeD ty3 (.plain rfl) (.plain rfl) rfl rfl rfl (by simp [AV.oneB, single]) (Nat.le_of_ble_eq_true rfl) rfl | apply Trace.storeDA ty3 (.plain rfl) (.plain rfl) rfl rfl rfl (by simp [AV.oneB, single]) (Nat.le_of_ble_eq_true rfl) rfl | apply Trace.storeLoc ty3 (.plain rfl) (.plain rfl) rfl rfl rfl (by simp [AV.oneB, single]) (Nat.le_of_ble_eq_true rfl) rfl | apply Trace.storeRow ty3 (.plain rfl) (.plain rfl) rfl rfl rfl rfl (by decide) (by simp [AV.oneB, single]) rfl (by omega)
        exact .nil _
      · exact keepOK_of hk hn rfl
      apply WPA.region
      · apply Trace.pu [] (.move (.plain rfl))
        apply Trace.pu [] (.arith (.plain rfl) (.plain rfl) rfl (fun _ => bd64 (by omega)))
        apply Trace.pu [] (.assign (.plain rfl))
        exact .nil _
      · exact keepOK_of hk hn rfl
      exact ⟨k + 1, by omega, by omega, St.le_cons rfl (St.le_cons rfl (St.le_cons rfl (St.le_cons rfl (St.le_cons (slI (by omega)) (St.le_cons rfl (St.le_cons rfl (St.le_cons (rowEq (rowSet hlt2)) ((by repeat (first | exact St.le_refl _ | refine le_skip ?_ rfl))))))))))⟩
    · apply WPA.exit
      have hkn : k = g.lat.length := by
        have : ¬ ((k : Int) < g.lat.length) := by simpa using hc2
        omega
      subst hkn
      have hcell : ((cellsM g.lat.length i).set i (.own 26 g.lat.length))[i]? = some (.own 26 g.lat.length) := List.getElem?_set_self (by rw [cellsM_length (by omega)]; exact hlt)
      refine WPA.weaken (T := (sl 1, .av (.loc 1 0)) :: (sl 3, .av (iv .i64 (g.lat.length))) :: (sl 4, .av (.own 17 g.lat.length)) :: (sl 5, .av (iv .i64 (i))) :: (bk 1, .blk (.data g.ds)) :: (bk 17, .blk (.appv ((cellsM g.lat.length i).set i (.own 26 g.lat.length)))) :: (bk 26, .blk (.app 1 g.lat.length [.ints .i64 (List.replicate g.lat.length FAR)])) :: fam (Wm g.lat.length i)) ?_ (St.le_cons rfl (St.le_cons rfl (St.le_cons rfl (St.le_cons rfl (St.le_cons rfl (St.le_cons rfl (St.le_cons (rowEq (by simp)) ((by repeat (first | exact St.le_refl _ | refine le_skip ?_ rfl))))))))))
      refine WPA.ghost (Ghost.alias' (L := 17) (i := i) (a := 26) (b := inn i) (S' := (sl 1, .av (.loc 1 0)) :: (sl 3, .av (iv .i64 (g.lat.length))) :: (sl 4, .av (.own 17 g.lat.length)) :: (sl 5, .av (iv .i64 (i))) :: (bk 1, .blk (.data g.ds)) :: fam (Wm g.lat.length i)) rfl hcell rfl (by decide) (by repeat (first | exact fam_out (by simp) | refine get_skip ?_ rfl)) (by repeat (first | exact nm_fam | refine nm_appv cellsM_out ?_ | refine nm_cons rfl ?_)) (by rw [hk]; simp) (St.le_cons rfl (St.le_cons rfl (St.le_cons rfl (St.le_cons rfl (St.le_cons rfl ((by repeat (first | exact St.le_refl _ | refine le_skip ?_ rfl)))))))) (fam_small (by decide))) ?_
      apply WPA.region
      · apply Trace.pu [] (.move (.plain rfl))
        apply Trace.pu [] (.arith (.plain rfl) (.plain rfl) rfl (fun _ => bd64 (by omega)))
        apply Trace.pu [] (.assign (.plain rfl))
        exact .nil _
      · exact keepOK_of hk hn rfl
      exact ⟨i + 1, by omega, by omega, St.le_cons rfl (St.le_cons rfl (St.le_cons rfl (St.le_cons (slI (by omega)) (St.le_cons rfl (St.le_cons (appv_eq (cellsM_succ hlt)) ((by repeat (first | exact le_pushM (by repeat (first | exact St.le_refl _ | refine le_skip ?_ rfl)) | refine le_skip ?_ rfl))))))))⟩
  · have hin : i = g.lat.length := by
      have : ¬ ((i : Int) < g.lat.length) := by simpa using hc1
      omega
    subst hin
    apply WPA.exit
    apply WPA.seq
    apply WPA.seq
    apply WPA.region
    · apply Trace.pu [] (.assign (.plain rfl))
      exact .nil _
    · exact keepOK_of hk hn rfl
    apply WPA.block
    refine WPA.loop (σ := Nat) (fun i => (sl 1, .av (.loc 1 0)) :: (sl 3, .av (iv .i64 (g.lat.length))) :: (sl 4, .av (.own 17 g.lat.length)) :: (sl 7, .av (iv .i64 (i))) :: (bk 1, .blk (.data g.ds)) :: (bk 17, .blk (.appv (matC (wayEs g i)))) :: fam (wayEs g i)) (fun i => i ≤ g.es.length) (fun i => g.es.length - i) 0
      (St.le_cons rfl (St.le_cons rfl (St.le_cons rfl (St.le_cons rfl (St.le_cons rfl (St.le_cons (appv_eq (by simp [cellsM]; rfl)) ((by repeat (first | exact St.le_refl _ | refine le_skip ?_ rfl))))))))) (Nat.zero_le _) fun i hi => ?_
    apply WPA.seq
    apply WPA.seq
    apply WPA.region
    · apply Trace.pu [] (.move (.plain rfl))
      apply Trace.pu [] (.fieldAddr fl25_1 (.plain rfl) rfl)
      first | apply Trace.pu [_] (.loadLoc1D ty23 (.plain rfl) rfl rfl) | apply Trace.pu [_] (.loadLoc1 ty23 (.plain rfl) rfl rfl) | apply Trace.pu [] (.loadRp1 ty23 (.plain rfl) rfl) | apply Trace.pu [_] (.loadCol1 ty23 (.plain rfl) rfl rfl rfl (fun _ => by omega))
      apply Trace.pu [] (.len rfl Try.underlying23 (.plain rfl) rfl)
      apply Trace.pu [] (.cmp (.plain rfl) (.plain rfl) rfl)
      exact .nil _
    · exact keepOK_of hk hn rfl
    refine WPA.cond rfl (fun hc3 => ?_) (fun hc3 => ?_)
    · have hlt3 : i < g.es.length := by simpa using hc3
      have hway := wayEs_ok hok i hi
      obtain ⟨e, he⟩ : ∃ e, g.es.getD i default = e := ⟨_, rfl⟩
      obtain ⟨hem, hef, het, hef0, het0⟩ := he ▸ Gr.edge hok hlt3
      have heb := hok.es e hem
      have hwt := g.wt_bd hok hem
      unfold Gr.wt at hwt
      have hfl : e.f.toNat < (wayEs g i).length := by rw [hway.sq.len]; exact hef
      have hrl := hway.sq.row _ hef
      have hwlo := hway.lo _ _ hef het
      have hwhi := hway.hi _ _ hef het
      have hcell := matC_get hfl
      apply WPA.skip
      apply WPA.seq
      apply WPA.block
      apply WPA.seq
      apply WPA.region
      · apply Trace.pu [] (.fieldAddr fl25_1 (.plain rfl) rfl)
        first | apply Trace.pu [_] (.loadLoc1D ty23 (.plain rfl) rfl rfl) | apply Trace.pu [_] (.loadLoc1 ty23 (.plain rfl) rfl rfl) | apply Trace.pu [] (.loadRp1 ty23 (.plain rfl) rfl) | apply Trace.pu [_] (.loadCol1 ty23 (.plain rfl) rfl rfl rfl (fun _ => by omega))
        apply Trace.pu [] (.move (.plain rfl))
        apply Trace.pu [] ((Pure.indexRows el23 (.plain rfl) (.plain rfl) (fun _ => ⟨by omega, by omega⟩)).to (y := .rp e.ds) (by show AV.rp (g.es.getD i default).ds = _; rw [he]))
        first | apply Trace.pu [_] (.loadAllD ty43 (.plain rfl) rfl (by simp)) | apply Trace.pu [_] (.loadLocD ty43 (.plain rfl) rfl (fun _ => by simp)) | apply Trace.pu [_] (.loadLoc ty43 (.plain rfl) rfl (fun _ => Nat.le_of_ble_eq_true rfl)) | apply Trace.pu [] (.loadRp ty43 (.plain rfl) (fun _ => by decide)) | apply Trace.pu [] (.loadRp ty43 (.plain rfl) (fun _ => Nat.le_of_ble_eq_true rfl)) | apply Trace.pu [_] (.loadCol ty43 (.plain rfl) rfl rfl (fun _ => by decide) (fun _ => by omega)) | apply Trace.pu [_] (.loadArr ty43 (.plain rfl) rfl)
        apply Trace.alloc 8 [] (.data _) zo43 (cellsAs_data _) (freshB_of (fun l hl => by
            simp only [List.mem_singleton] at hl; subst hl
            repeat (first | exact nm_fam | refine nm_appv (matC_ment (by decide)) ?_ | refine nm_cons rfl ?_)))
        first | apply Trace.storeD ty43 (.plain rfl) (.plain rfl) rfl rfl (by simp) (by simp [AV.oneB, single]) (by simp) (spliceL_all (by simp)) | apply Trace.storeD ty43 (.plain rfl) (.plain rfl) rfl rfl (by simp) (by simp [AV.oneB, single]) (by simp) rfl | apply Trace.storeDA ty43 (.plain rfl) (.plain rfl) rfl rfl (by simp) (by simp [AV.oneB, single]) (by simp) rfl | apply Trace.storeLoc ty43 (.plain rfl) (.plain rfl) rfl rfl (by simp) (by simp [AV.oneB, single]) (by simp) rfl | apply Trace.storeRow ty43 (.plain rfl) (.plain rfl) rfl rfl rfl rfl (by decide) (by simp [AV.oneB, single]) rfl (by omega)
        exact .nil _
      · exact keepOK_of hk hn rfl
      apply WPA.draw mixed
      · apply Trace.pu [] (.move (.plain rfl))
        apply Trace.pu [] (.fieldAddr fl43_0 (.plain rfl) rfl)
        first | apply Trace.pu [_] (.loadLoc1D ty3 (.plain rfl) rfl rfl) | apply Trace.pu [_] (.loadLoc1 ty3 (.plain rfl) rfl rfl) | apply Trace.pu [] (.loadRp1 ty3 (.plain rfl) rfl) | apply Trace.pu [_] (.loadCol1 ty3 (.plain rfl) rfl rfl rfl (fun _ => by omega))
        apply Trace.pu [] (.indexOwn el28 (.plain rfl) (.plain rfl) (fun _ => ⟨by omega, by omega⟩))
        apply Trace.pu [17] (.loadRowV ty22 (.plain rfl) rfl (fun _ => hcell))
        apply Trace.pu [] (.fieldAddr fl43_1 (.plain rfl) rfl)
        first | apply Trace.pu [_] (.loadLoc1D ty3 (.plain rfl) rfl rfl) | apply Trace.pu [_] (.loadLoc1 ty3 (.plain rfl) rfl rfl) | apply Trace.pu [] (.loadRp1 ty3 (.plain rfl) rfl) | apply Trace.pu [_] (.loadCol1 ty3 (.plain rfl) rfl rfl rfl (fun _ => by omega))
        apply Trace.pu [] (.move (.plain rfl))
        apply Trace.pu [] (.fieldAddr fl43_0 (.plain rfl) rfl)
        first | apply Trace.pu [_] (.loadLoc1D ty3 (.plain rfl) rfl rfl) | apply Trace.pu [_] (.loadLoc1 ty3 (.plain rfl) rfl rfl) | apply Trace.pu [] (.loadRp1 ty3 (.plain rfl) rfl) | apply Trace.pu [_] (.loadCol1 ty3 (.plain rfl) rfl rfl rfl (fun _ => by omega))
        first | apply Trace.pu [] (.indexRows el28 (.plain rfl) (.plain rfl) (fun _ => ⟨by omega, by omega⟩)) | apply Trace.pu [] (.indexOwn el28 (.plain rfl) (.plain rfl) (fun _ => ⟨by omega, by omega⟩)) | apply Trace.pu [] (.indexSl el28 (.plain rfl) (.plain rfl) (fun _ => ⟨by omega, by omega⟩))
        apply Trace.pu [17] (.loadRowV ty22 (.plain rfl) rfl (fun _ => hcell))
        apply Trace.pu [] (.fieldAddr fl43_1 (.plain rfl) rfl)
        first | apply Trace.pu [_] (.loadLoc1D ty3 (.plain rfl) rfl rfl) | apply Trace.pu [_] (.loadLoc1 ty3 (.plain rfl) rfl rfl) | apply Trace.pu [] (.loadRp1 ty3 (.plain rfl) rfl) | apply Trace.pu [_] (.loadCol1 ty3 (.plain rfl) rfl rfl rfl (fun _ => by omega))
        first | apply Trace.pu [] (.indexRows el22 (.plain rfl) (.plain rfl) (fun _ => ⟨by omega, by omega⟩)) | apply Trace.pu [] (.indexOwn el22 (.plain rfl) (.plain rfl) (fun _ => ⟨by omega, by omega⟩)) | apply Trace.pu [] (.indexSl el22 (.plain rfl) (.plain rfl) (fun _ => ⟨by omega, by omega⟩))
        apply Trace.pu [inn e.f.toNat] (.loadCol1 ty3 (.plain rfl) (by repeat (first | exact fam_get hfl | refine get_skip ?_ rfl)) rfl rfl (fun _ => by omega))
        apply Trace.pu [] (.fieldAddr fl43_3 (.plain rfl) rfl)
        first | apply Trace.pu [_] (.loadLoc1D ty3 (.plain rfl) rfl rfl) | apply Trace.pu [_] (.loadLoc1 ty3 (.plain rfl) rfl rfl) | apply Trace.pu [] (.loadRp1 ty3 (.plain rfl) rfl) | apply Trace.pu [_] (.loadCol1 ty3 (.plain rfl) rfl rfl rfl (fun _ => by omega))
        apply Trace.pu [] (.fieldAddr fl25_0 (.plain rfl) rfl)
        first | apply Trace.pu [_] (.loadLoc1D ty22 (.plain rfl) rfl rfl) | apply Trace.pu [_] (.loadLoc1 ty22 (.plain rfl) rfl rfl) | apply Trace.pu [] (.loadRp1 ty22 (.plain rfl) rfl) | apply Trace.pu [_] (.loadCol1 ty22 (.plain rfl) rfl rfl rfl (fun _ => by omega))
        apply Trace.pu [] (.fieldAddr fl43_0 (.plain rfl) rfl)
        first | apply Trace.pu [_] (.loadLoc1D ty3 (.plain rfl) rfl rfl) | apply Trace.pu [_] (.loadLoc1 ty3 (.plain rfl) rfl rfl) | apply Trace.pu [] (.loadRp1 ty3 (.plain rfl) rfl) | apply Trace.pu [_] (.loadCol1 ty3 (.plain rfl) rfl rfl rfl (fun _ => by omega))
        first | apply Trace.pu [] (.indexRows el22 (.plain rfl) (.plain rfl) (fun _ => ⟨by omega, by omega⟩)) | apply Trace.pu [] (.indexOwn el22 (.plain rfl) (.plain rfl) (fun _ => ⟨by omega, by omega⟩)) | apply Trace.pu [] (.indexSl el22 (.plain rfl) (.plain rfl) (fun _ => ⟨by omega, by omega⟩))
        first | apply Trace.pu [_] (.loadLoc1D ty3 (.plain rfl) rfl rfl) | apply Trace.pu [_] (.loadLoc1 ty3 (.plain rfl) rfl rfl) | apply Trace.pu [] (.loadRp1 ty3 (.plain rfl) rfl) | apply Trace.pu [_] (.loadCol1 ty3 (.plain rfl) rfl rfl rfl (fun _ => by omega))
        apply Trace.pu [] (.arith (.plain rfl) (.plain rfl) rfl (fun _ => bd64 (by omega)))
        apply Trace.pu [] (.min2 (.plain rfl) (.plain rfl))
        first | apply Trace.pu [] (.indexRows el22 (.plain rfl) (.plain rfl) (fun _ => ⟨by omega, by omega⟩)) | apply Trace.pu [] (.indexOwn el22 (.plain rfl) (.plain rfl) (fun _ => ⟨by omega, by omega⟩)) | apply Trace.pu [] (.indexSl el22 (.plain rfl) (.plain rfl) (fun _ => ⟨by omega, by omega⟩))
        apply Trace.storeRow ty3 (.plain rfl) (.plain rfl) (by repeat (first | exact fam_get hfl | refine get_skip ?_ rfl)) rfl rfl rfl (by decide) (by simp [AV.oneB, single]) rfl (by omega)
        exact .nil _
      · rfl
      · repeat (first | exact keepOK_nil | refine keepOK_cons (by first | exact axOK_of hk hn rfl | exact axOK_blk) ?_)
      apply WPA.region
      · apply Trace.pu [] (.move (.plain rfl))
        apply Trace.pu [] (.arith (.plain rfl) (.plain rfl) rfl (fun _ => bd64 (by omega)))
        apply Trace.pu [] (.assign (.plain rfl))
        exact .nil _
      · exact keepOK_of hk hn rfl
      have hnx : wayEs g (i + 1) = (wayEs g i).set e.f.toNat (((wayEs g i).getD e.f.toNat []).set e.t.toNat (min (((wayEs g i).getD e.f.toNat []).getD e.t.toNat 0) (e.d - g.lat.getD e.f.toNat 0))) := by
        rw [wayEs_succ]; unfold wayE mset; simp only [he]; rfl
      refine ⟨i + 1, by omega, by omega, ?_⟩
      rw [hnx]
      exact (St.le_cons rfl (St.le_cons rfl (St.le_cons rfl (St.le_cons (slI (by omega)) (St.le_cons rfl (St.le_cons (appv_eq (matC_set (by simp))) ((by repeat (first | exact le_row (by repeat (first | exact St.le_refl _ | refine le_skip ?_ rfl)) hfl (by simp) | refine le_skip ?_ rfl)))))))))
    · have hin2 : i = g.es.length := by
        have : ¬ ((i : Int) < g.es.length) := by simpa using hc3
        omega
      subst hin2
      apply WPA.exit
      apply WPA.seq
      apply WPA.seq
      apply WPA.region
      · apply Trace.pu [] (.assign (.plain rfl))
        exact .nil _
      · exact keepOK_of hk hn rfl
      apply WPA.block
      refine WPA.loop (σ := Nat) (fun m => (sl 1, .av (.loc 1 0)) :: (sl 3, .av (iv .i64 (g.lat.length))) :: (sl 4, .av (.own 17 g.lat.length)) :: (sl 9, .av (iv .i64 (m))) :: (bk 1, .blk (.data g.ds)) :: (bk 17, .blk (.appv (matC (fwM g m)))) :: fam (fwM g m)) (fun m => m ≤ g.lat.length) (fun m => g.lat.length - m) 0
        (St.le_cons rfl (St.le_cons rfl (St.le_cons rfl (St.le_cons rfl (St.le_cons rfl (St.le_cons rfl ((by repeat (first | exact St.le_refl _ | refine le_skip ?_ rfl))))))))) (Nat.zero_le _) fun m hm => ?_
      apply WPA.seq
      apply WPA.seq
      apply WPA.region
      · apply Trace.pu [] (.move (.plain rfl))
        apply Trace.pu [] (.move (.plain rfl))
        apply Trace.pu [] (.cmp (.plain rfl) (.plain rfl) rfl)
        exact .nil _
      · exact keepOK_of hk hn rfl
      refine WPA.cond rfl (fun hc4 => ?_) (fun hc4 => ?_)
      · have hml : m < g.lat.length := by simpa using hc4
        have hwM := fwM_ok hok m
        apply WPA.skip
        apply WPA.seq
        apply WPA.block
        apply WPA.seq
        apply WPA.region
        · apply Trace.pu [] (.assign (.plain rfl))
          exact .nil _
        · exact keepOK_of hk hn rfl
        apply WPA.block
        refine WPA.loop (σ := Nat) (fun i => (sl 1, .av (.loc 1 0)) :: (sl 3, .av (iv .i64 (g.lat.length))) :: (sl 4, .av (.own 17 g.lat.length)) :: (sl 9, .av (iv .i64 (m))) :: (sl 10, .av (iv .i64 (i))) :: (bk 1, .blk (.data g.ds)) :: (bk 17, .blk (.appv (matC (fwI g.lat.length m (fwM g m) i)))) :: fam (fwI g.lat.length m (fwM g m) i)) (fun i => i ≤ g.lat.length) (fun i => g.lat.length - i) 0
          (St.le_cons rfl (St.le_cons rfl (St.le_cons rfl (St.le_cons rfl (St.le_cons rfl (St.le_cons rfl (St.le_cons rfl ((by repeat (first | exact St.le_refl _ | refine le_skip ?_ rfl)))))))))) (Nat.zero_le _) fun i hi5 => ?_
        apply WPA.seq
        apply WPA.seq
        apply WPA.region
        · apply Trace.pu [] (.move (.plain rfl))
          apply Trace.pu [] (.move (.plain rfl))
          apply Trace.pu [] (.cmp (.plain rfl) (.plain rfl) rfl)
          exact .nil _
        · exact keepOK_of hk hn rfl
        refine WPA.cond rfl (fun hc5 => ?_) (fun hc5 => ?_)
        · have hil : i < g.lat.length := by simpa using hc5
          have hwI := fwI_ok (m := m) hwM i hi5
          apply WPA.skip
          apply WPA.seq
          apply WPA.block
          apply WPA.seq
          apply WPA.region
          · apply Trace.pu [] (.assign (.plain rfl))
            exact .nil _
          · exact keepOK_of hk hn rfl
          apply WPA.block
          refine WPA.loop (σ := Nat) (fun k => (sl 1, .av (.loc 1 0)) :: (sl 3, .av (iv .i64 (g.lat.length))) :: (sl 4, .av (.own 17 g.lat.length)) :: (sl 9, .av (iv .i64 (m))) :: (sl 10, .av (iv .i64 (i))) :: (sl 11, .av (iv .i64 (k))) :: (bk 1, .blk (.data g.ds)) :: (bk 17, .blk (.appv (matC (fwK m i (fwI g.lat.length m (fwM g m) i) k)))) :: fam (fwK m i (fwI g.lat.length m (fwM g m) i) k)) (fun k => k ≤ g.lat.length) (fun k => g.lat.length - k) 0
            (St.le_cons rfl (St.le_cons rfl (St.le_cons rfl (St.le_cons rfl (St.le_cons rfl (St.le_cons rfl (St.le_cons rfl (St.le_cons rfl ((by repeat (first | exact St.le_refl _ | refine le_skip ?_ rfl))))))))))) (Nat.zero_le _) fun k hk6 => ?_
          apply WPA.seq
          apply WPA.seq
          apply WPA.region
          · apply Trace.pu [] (.move (.plain rfl))
            apply Trace.pu [] (.move (.plain rfl))
            apply Trace.pu [] (.cmp (.plain rfl) (.plain rfl) rfl)
            exact .nil _
          · exact keepOK_of hk hn rfl
          refine WPA.cond rfl (fun hc6 => ?_) (fun hc6 => ?_)
          · have hkl : k < g.lat.length := by simpa using hc6
            obtain ⟨w, hw⟩ : ∃ w, fwK m i (fwI g.lat.length m (fwM g m) i) k = w := ⟨_, rfl⟩
            have hww : Way g.lat.length w := hw ▸ fwK_ok hwI hil k hk6
            have hnx : fwK m i (fwI g.lat.length m (fwM g m) i) (k + 1) = fw1 m i w k := by rw [fwK_succ, hw]
            rw [hw]
            have hli : i < w.length := by rw [hww.sq.len]; exact hil
            have hlm : m < w.length := by rw [hww.sq.len]; exact hml
            have hri := hww.sq.row i hil
            have hrm := hww.sq.row m hml
            have hci := matC_get hli
            have hcm := matC_get hlm
            have h1lo := hww.lo i m hil hml
            have h1hi := hww.hi i m hil hml
            have h2lo := hww.lo m k hml hkl
            have h2hi := hww.hi m k hml hkl
            have h3lo := hww.lo i k hil hkl
            have h3hi := hww.hi i k hil hkl
            apply WPA.skip
            apply WPA.seq
            apply WPA.block
            apply WPA.seq
            apply WPA.region
            · apply Trace.pu [] (.move (.plain rfl))
              apply Trace.pu [] (.move (.plain rfl))
              first | apply Trace.pu [] (.indexRows el28 (.plain rfl) (.plain rfl) (fun _ => ⟨by omega, by omega⟩)) | apply Trace.pu [] (.indexOwn el28 (.plain rfl) (.plain rfl) (fun _ => ⟨by omega, by omega⟩)) | apply Trace.pu [] (.indexSl el28 (.plain rfl) (.plain rfl) (fun _ => ⟨by omega, by omega⟩))
              apply Trace.pu [17] (.loadRowV ty22 (.plain rfl) rfl (fun _ => hci))
              apply Trace.pu [] (.move (.plain rfl))
              first | apply Trace.pu [] (.indexRows el22 (.plain rfl) (.plain rfl) (fun _ => ⟨by omega, by omega⟩)) | apply Trace.pu [] (.indexOwn el22 (.plain rfl) (.plain rfl) (fun _ => ⟨by omega, by omega⟩)) | apply Trace.pu [] (.indexSl el22 (.plain rfl) (.plain rfl) (fun _ => ⟨by omega, by omega⟩))
              apply Trace.pu [inn i] (.loadCol1 ty3 (.plain rfl) (by repeat (first | exact fam_get hli | refine get_skip ?_ rfl)) rfl rfl (fun _ => by omega))
              apply Trace.pu [] (.cmp (.plain rfl) (.plain rfl) rfl)
              apply Trace.pu [] (.move (.plain rfl))
              apply Trace.pg [] rfl (.move (.plain rfl))
              apply Trace.pg [] rfl (.move (.plain rfl))
              first | apply Trace.pg [] rfl (.indexRows el28 (.gd rfl (fun h => h)) (.gd rfl (fun h => h)) (fun _ => ⟨by omega, by omega⟩)) | apply Trace.pg [] rfl (.indexOwn el28 (.gd rfl (fun h => h)) (.gd rfl (fun h => h)) (fun _ => ⟨by omega, by omega⟩)) | apply Trace.pg [] rfl (.indexSl el28 (.gd rfl (fun h => h)) (.gd rfl (fun h => h)) (fun _ => ⟨by omega, by omega⟩))
              apply Trace.pg [17] rfl (.loadRowV ty22 (.gd rfl (fun h => h)) rfl (fun _ => hcm))
              apply Trace.pg [] rfl (.move (.plain rfl))
              first | apply Trace.pg [] rfl (.indexRows el22 (.gd rfl (fun h => h)) (.gd rfl (fun h => h)) (fun _ => ⟨by omega, by omega⟩)) | apply Trace.pg [] rfl (.indexOwn el22 (.gd rfl (fun h => h)) (.gd rfl (fun h => h)) (fun _ => ⟨by omega, by omega⟩)) | apply Trace.pg [] rfl (.indexSl el22 (.gd rfl (fun h => h)) (.gd rfl (fun h => h)) (fun _ => ⟨by omega, by omega⟩))
              apply Trace.pg [inn m] rfl (.loadCol1 ty3 (.gd rfl (fun h => h)) (by repeat (first | exact fam_get hlm | refine get_skip ?_ rfl)) rfl rfl (fun _ => by omega))
              apply Trace.pg [] rfl (.cmp (.gd rfl (fun h => h)) (.plain rfl) rfl)
              apply Trace.pu [] (.pick (.plain rfl) (.gd rfl (by simp)) (.plain rfl))
              exact .nil _
            · exact keepOK_of hk hn rfl
            refine WPA.cond rfl (fun hc7 => ?_) (fun hc7 => ?_)
            · have g1lo : -1099511627776 ≤ (w.getD i []).getD ((m : Nat) : Int).toNat 0 := h1lo
              have g1hi : (w.getD i []).getD ((m : Nat) : Int).toNat 0 ≤ 1099511627776 := h1hi
              have g2lo : -1099511627776 ≤ (w.getD m []).getD ((k : Nat) : Int).toNat 0 := h2lo
              have g2hi : (w.getD m []).getD ((k : Nat) : Int).toNat 0 ≤ 1099511627776 := h2hi
              have hA : wa w i m < FAR ∧ wa w m k < FAR := by
                have h9 : (bif decide (wa w i m < FAR) then decide (wa w m k < FAR) else false) = true := hc7
                cases ha : decide (wa w i m < FAR) with
                | true => rw [ha] at h9; exact ⟨of_decide_eq_true ha, of_decide_eq_true h9⟩
                | false => rw [ha] at h9; cases h9
              have hnx2 : fwK m i (fwI g.lat.length m (fwM g m) i) (k + 1) = w.set i ((w.getD i []).set k (max (-FAR) (min (wa w i k) (wa w i m + wa w m k)))) := by rw [hnx]; unfold fw1; rw [if_pos hA]; rfl
              refine WPA.weaken (T := (sl 1, .av (.loc 1 0)) :: (sl 3, .av (iv .i64 (g.lat.length))) :: (sl 4, .av (.own 17 g.lat.length)) :: (sl 9, .av (iv .i64 (m))) :: (sl 10, .av (iv .i64 (i))) :: (sl 11, .av (iv .i64 (k))) :: (bk 1, .blk (.data g.ds)) :: (bk 17, .blk (.appv (matC w))) :: fam w) ?_ (St.le_cons rfl (St.le_cons rfl (St.le_cons rfl (St.le_cons rfl (St.le_cons rfl (St.le_cons rfl (St.le_cons rfl (St.le_cons rfl ((by repeat (first | exact St.le_refl _ | refine le_skip ?_ rfl)))))))))))
              apply WPA.draw mixed
              · apply Trace.pu [] (.move (.plain rfl))
                apply Trace.pu [] (.move (.plain rfl))
                first | apply Trace.pu [] (.indexRows el28 (.plain rfl) (.plain rfl) (fun _ => ⟨by omega, by omega⟩)) | apply Trace.pu [] (.indexOwn el28 (.plain rfl) (.plain rfl) (fun _ => ⟨by omega, by omega⟩)) | apply Trace.pu [] (.indexSl el28 (.plain rfl) (.plain rfl) (fun _ => ⟨by omega, by omega⟩))
                apply Trace.pu [17] (.loadRowV ty22 (.plain rfl) rfl (fun _ => hci))
                apply Trace.pu [] (.move (.plain rfl))
                apply Trace.pu [] (.move (.plain rfl))
                apply Trace.pu [] (.move (.plain rfl))
                first | apply Trace.pu [] (.indexRows el28 (.plain rfl) (.plain rfl) (fun _ => ⟨by omega, by omega⟩)) | apply Trace.pu [] (.indexOwn el28 (.plain rfl) (.plain rfl) (fun _ => ⟨by omega, by omega⟩)) | apply Trace.pu [] (.indexSl el28 (.plain rfl) (.plain rfl) (fun _ => ⟨by omega, by omega⟩))
                apply Trace.pu [17] (.loadRowV ty22 (.plain rfl) rfl (fun _ => hci))
                apply Trace.pu [] (.move (.plain rfl))
                first | apply Trace.pu [] (.indexRows el22 (.plain rfl) (.plain rfl) (fun _ => ⟨by omega, by omega⟩)) | apply Trace.pu [] (.indexOwn el22 (.plain rfl) (.plain rfl) (fun _ => ⟨by omega, by omega⟩)) | apply Trace.pu [] (.indexSl el22 (.plain rfl) (.plain rfl) (fun _ => ⟨by omega, by omega⟩))
                apply Trace.pu [inn i] (.loadCol1 ty3 (.plain rfl) (by repeat (first | exact fam_get hli | refine get_skip ?_ rfl)) rfl rfl (fun _ => by omega))
                apply Trace.pu [] (.move (.plain rfl))
                apply Trace.pu [] (.move (.plain rfl))
                first | apply Trace.pu [] (.indexRows el28 (.plain rfl) (.plain rfl) (fun _ => ⟨by omega, by omega⟩)) | apply Trace.pu [] (.indexOwn el28 (.plain rfl) (.plain rfl) (fun _ => ⟨by omega, by omega⟩)) | apply Trace.pu [] (.indexSl el28 (.plain rfl) (.plain rfl) (fun _ => ⟨by omega, by omega⟩))
                apply Trace.pu [17] (.loadRowV ty22 (.plain rfl) rfl (fun _ => hci))
                apply Trace.pu [] (.move (.plain rfl))
                first | apply Trace.pu [] (.indexRows el22 (.plain rfl) (.plain rfl) (fun _ => ⟨by omega, by omega⟩)) | apply Trace.pu [] (.indexOwn el22 (.plain rfl) (.plain rfl) (fun _ => ⟨by omega, by omega⟩)) | apply Trace.pu [] (.indexSl el22 (.plain rfl) (.plain rfl) (fun _ => ⟨by omega, by omega⟩))
                apply Trace.pu [inn i] (.loadCol1 ty3 (.plain rfl) (by repeat (first | exact fam_get hli | refine get_skip ?_ rfl)) rfl rfl (fun _ => by omega))
                apply Trace.pu [] (.move (.plain rfl))
                apply Trace.pu [] (.move (.plain rfl))
                first | apply Trace.pu [] (.indexRows el28 (.plain rfl) (.plain rfl) (fun _ => ⟨by omega, by omega⟩)) | apply Trace.pu [] (.indexOwn el28 (.plain rfl) (.plain rfl) (fun _ => ⟨by omega, by omega⟩)) | apply Trace.pu [] (.indexSl el28 (.plain rfl) (.plain rfl) (fun _ => ⟨by omega, by omega⟩))
                apply Trace.pu [17] (.loadRowV ty22 (.plain rfl) rfl (fun _ => hcm))
                apply Trace.pu [] (.move (.plain rfl))
                first | apply Trace.pu [] (.indexRows el22 (.plain rfl) (.plain rfl) (fun _ => ⟨by omega, by omega⟩)) | apply Trace.pu [] (.indexOwn el22 (.plain rfl) (.plain rfl) (fun _ => ⟨by omega, by omega⟩)) | apply Trace.pu [] (.indexSl el22 (.plain rfl) (.plain rfl) (fun _ => ⟨by omega, by omega⟩))
                apply Trace.pu [inn m] (.loadCol1 ty3 (.plain rfl) (by repeat (first | exact fam_get hlm | refine get_skip ?_ rfl)) rfl rfl (fun _ => by omega))
                apply Trace.pu [] (.arith (.plain rfl) (.plain rfl) rfl (fun _ => bd64 (by omega)))
                apply Trace.pu [] (.min2 (.plain rfl) (.plain rfl))
                apply Trace.pu [] (.max2 (.plain rfl) (.plain rfl))
                first | apply Trace.pu [] (.indexRows el22 (.plain rfl) (.plain rfl) (fun _ => ⟨by omega, by omega⟩)) | apply Trace.pu [] (.indexOwn el22 (.plain rfl) (.plain rfl) (fun _ => ⟨by omega, by omega⟩)) | apply Trace.pu [] (.indexSl el22 (.plain rfl) (.plain rfl) (fun _ => ⟨by omega, by omega⟩))
                apply Trace.storeRow ty3 (.plain rfl) (.plain rfl) (by repeat (first | exact fam_get hli | refine get_skip ?_ rfl)) rfl rfl rfl (by decide) (by simp [AV.oneB, single]) rfl (by omega)
                exact .nil _
              · rfl
              · repeat (first | exact keepOK_nil | refine keepOK_cons (by first | exact axOK_of hk hn rfl | exact axOK_blk) ?_)
              apply WPA.region
              · apply Trace.pu [] (.move (.plain rfl))
                apply Trace.pu [] (.arith (.plain rfl) (.plain rfl) rfl (fun _ => bd64 (by omega)))
                apply Trace.pu [] (.assign (.plain rfl))
                exact .nil _
              · exact keepOK_of hk hn rfl
              refine ⟨k + 1, by omega, by omega, ?_⟩
              rw [hnx2]
              first
                | exact (St.le_cons rfl (St.le_cons rfl (St.le_cons rfl (St.le_cons rfl (St.le_cons rfl (St.le_cons (slI (by omega)) (St.le_cons rfl (St.le_cons rfl ((by repeat (first | exact St.le_refl _ | refine le_skip ?_ rfl)))))))))))
                | exact (St.le_cons rfl (St.le_cons rfl (St.le_cons rfl (St.le_cons rfl (St.le_cons rfl (St.le_cons (slI (by omega)) (St.le_cons rfl (St.le_cons (appv_eq (matC_set (by simp))) ((by repeat (first | exact le_row (by repeat (first | exact St.le_refl _ | refine le_skip ?_ rfl)) hli (by simp) | refine le_skip ?_ rfl)))))))))))
            · have hA : ¬ (wa w i m < FAR ∧ wa w m k < FAR) := by
                rintro ⟨a, b⟩
                have h9 : (bif decide (wa w i m < FAR) then decide (wa w m k < FAR) else false) = false := hc7
                rw [decide_eq_true a, decide_eq_true b] at h9; cases h9
              have hnx2 : fwK m i (fwI g.lat.length m (fwM g m) i) (k + 1) = w := by rw [hnx]; unfold fw1; rw [if_neg hA]
              apply WPA.skip
              apply WPA.region
              · apply Trace.pu [] (.move (.plain rfl))
                apply Trace.pu [] (.arith (.plain rfl) (.plain rfl) rfl (fun _ => bd64 (by omega)))
                apply Trace.pu [] (.assign (.plain rfl))
                exact .nil _
              · exact keepOK_of hk hn rfl
              refine ⟨k + 1, by omega, by omega, ?_⟩
              rw [hnx2]
              first
                | exact (St.le_cons rfl (St.le_cons rfl (St.le_cons rfl (St.le_cons rfl (St.le_cons rfl (St.le_cons (slI (by omega)) (St.le_cons rfl (St.le_cons rfl ((by repeat (first | exact St.le_refl _ | refine le_skip ?_ rfl)))))))))))
                | exact (St.le_cons rfl (St.le_cons rfl (St.le_cons rfl (St.le_cons rfl (St.le_cons rfl (St.le_cons (slI (by omega)) (St.le_cons rfl (St.le_cons (appv_eq (matC_set (by simp))) ((by repeat (first | exact le_row (by repeat (first | exact St.le_refl _ | refine le_skip ?_ rfl)) hli (by simp) | refine le_skip ?_ rfl)))))))))))
          · have hkn : k = g.lat.length := by
              have : ¬ ((k : Int) < g.lat.length) := by simpa using hc6
              omega
            subst hkn
            apply WPA.exit
            apply WPA.region
            · apply Trace.pu [] (.move (.plain rfl))
              apply Trace.pu [] (.arith (.plain rfl) (.plain rfl) rfl (fun _ => bd64 (by omega)))
              apply Trace.pu [] (.assign (.plain rfl))
              exact .nil _
            · exact keepOK_of hk hn rfl
            refine ⟨i + 1, by omega, by omega, ?_⟩
            rw [fwI_succ]
            exact (St.le_cons rfl (St.le_cons rfl (St.le_cons rfl (St.le_cons rfl (St.le_cons (slI (by omega)) (St.le_cons rfl (St.le_cons rfl ((by repeat (first | exact St.le_refl _ | refine le_skip ?_ rfl))))))))))
        · have hin5 : i = g.lat.length := by
            have : ¬ ((i : Int) < g.lat.length) := by simpa using hc5
            omega
          subst hin5
          apply WPA.exit
          apply WPA.region
          · apply Trace.pu [] (.move (.plain rfl))
            apply Trace.pu [] (.arith (.plain rfl) (.plain rfl) rfl (fun _ => bd64 (by omega)))
            apply Trace.pu [] (.assign (.plain rfl))
            exact .nil _
          · exact keepOK_of hk hn rfl
          refine ⟨m + 1, by omega, by omega, ?_⟩
          rw [fwM_succ]
          exact (St.le_cons rfl (St.le_cons rfl (St.le_cons rfl (St.le_cons (slI (by omega)) (St.le_cons rfl (St.le_cons rfl ((by repeat (first | exact St.le_refl _ | refine le_skip ?_ rfl)))))))))
      · have hmn : m = g.lat.length := by
          have : ¬ ((m : Int) < g.lat.length) := by simpa using hc4
          omega
        subst hmn
        have hwM := fwM_ok hok g.lat.length
        apply WPA.exit
        apply WPA.seq
        apply WPA.seq
        apply WPA.region
        · apply Trace.pu [] (.assign (.plain rfl))
          exact .nil _
        · exact keepOK_of hk hn rfl
        apply WPA.block
        refine WPA.loop (σ := Nat) (fun j => (sl 1, .av (.loc 1 0)) :: (sl 3, .av (iv .i64 (g.lat.length))) :: (sl 4, .av (.own 17 g.lat.length)) :: (sl 12, .av (iv .i64 (j))) :: (bk 17, .blk (.appv (matC (fwM g g.lat.length)))) :: fam (fwM g g.lat.length)) (fun j => j ≤ g.lat.length ∧ ∀ x, x < j → ¬ (wa (fwM g g.lat.length) x x ≤ 0)) (fun j => g.lat.length - j) 0
          (St.le_cons rfl (St.le_cons rfl (St.le_cons rfl (St.le_cons rfl (St.le_cons rfl ((by repeat (first | exact St.le_refl _ | refine le_skip ?_ rfl)))))))) ⟨Nat.zero_le _, fun x h => by omega⟩ fun j hj => ?_
        apply WPA.seq
        apply WPA.seq
        apply WPA.region
        · apply Trace.pu [] (.move (.plain rfl))
          apply Trace.pu [] (.move (.plain rfl))
          apply Trace.pu [] (.cmp (.plain rfl) (.plain rfl) rfl)
          exact .nil _
        · exact keepOK_of hk hn rfl
        refine WPA.cond rfl (fun hc8 => ?_) (fun hc8 => ?_)
        · have hjl : j < g.lat.length := by simpa using hc8
          have hlj : j < (fwM g g.lat.length).length := by rw [hwM.sq.len]; exact hjl
          have hrj := hwM.sq.row j hjl
          have hcj := matC_get hlj
          apply WPA.skip
          apply WPA.seq
          apply WPA.block
          apply WPA.seq
          apply WPA.region
          · apply Trace.pu [] (.move (.plain rfl))
            apply Trace.pu [] (.move (.plain rfl))
            first | apply Trace.pu [] (.indexRows el28 (.plain rfl) (.plain rfl) (fun _ => ⟨by omega, by omega⟩)) | apply Trace.pu [] (.indexOwn el28 (.plain rfl) (.plain rfl) (fun _ => ⟨by omega, by omega⟩)) | apply Trace.pu [] (.indexSl el28 (.plain rfl) (.plain rfl) (fun _ => ⟨by omega, by omega⟩))
            apply Trace.pu [17] (.loadRowV ty22 (.plain rfl) rfl (fun _ => hcj))
            apply Trace.pu [] (.move (.plain rfl))
            first | apply Trace.pu [] (.indexRows el22 (.plain rfl) (.plain rfl) (fun _ => ⟨by omega, by omega⟩)) | apply Trace.pu [] (.indexOwn el22 (.plain rfl) (.plain rfl) (fun _ => ⟨by omega, by omega⟩)) | apply Trace.pu [] (.indexSl el22 (.plain rfl) (.plain rfl) (fun _ => ⟨by omega, by omega⟩))
            apply Trace.pu [inn j] (.loadCol1 ty3 (.plain rfl) (by repeat (first | exact fam_get hlj | refine get_skip ?_ rfl)) rfl rfl (fun _ => by omega))
            apply Trace.pu [] (.cmp (.plain rfl) (.plain rfl) rfl)
            exact .nil _
          · exact keepOK_of hk hn rfl
          refine WPA.cond rfl (fun hc9 => ?_) (fun hc9 => ?_)
          · apply WPA.seq
            apply WPA.region
            · apply Trace.pu [] (.assign (.plain rfl))
              exact .nil _
            · exact keepOK_of hk hn rfl
            apply WPA.ret
            refine ⟨.inr rfl, ⟨_, (.cons (.tmp rfl) .nil), ?_⟩, by simp [St.get]⟩
            have hw0 : wa (fwM g g.lat.length) j j ≤ 0 := of_decide_eq_true hc9
            have hs : g.short = true := by
              unfold Gr.short
              rw [List.any_eq_true]
              exact ⟨j, by simpa using hjl, decide_eq_true hw0⟩
            rw [hs]
            rfl
          · apply WPA.skip
            apply WPA.region
            · apply Trace.pu [] (.move (.plain rfl))
              apply Trace.pu [] (.arith (.plain rfl) (.plain rfl) rfl (fun _ => bd64 (by omega)))
              apply Trace.pu [] (.assign (.plain rfl))
              exact .nil _
            · exact keepOK_of hk hn rfl
            have hw0 : ¬ (wa (fwM g g.lat.length) j j ≤ 0) := of_decide_eq_false hc9
            exact ⟨j + 1, ⟨by omega, fun x hx => by
              by_cases hxj : x = j
              · rw [hxj]; exact hw0
              · exact hj.2 x (by omega)⟩, by omega, (St.le_cons rfl (St.le_cons rfl (St.le_cons rfl (St.le_cons (slI (by omega)) (St.le_cons rfl ((by repeat (first | exact St.le_refl _ | refine le_skip ?_ rfl))))))))⟩
        · apply WPA.exit
          apply WPA.seq
          apply WPA.region
          · apply Trace.pu [] (.assign (.plain rfl))
            exact .nil _
          · exact keepOK_of hk hn rfl
          apply WPA.ret
          refine ⟨.inr rfl, ⟨_, (.cons (.tmp rfl) .nil), ?_⟩, by simp [St.get]⟩
          have hjn : j = g.lat.length := by
            have : ¬ ((j : Int) < g.lat.length) := by simpa using hc8
            omega
          subst hjn
          have hs : g.short = false := by
            unfold Gr.short
            rw [List.any_eq_false]
            exact fun x hx => by simpa using hj.2 x (by simpa using hx)
          rw [hs]
          rfl

end Go.Proofs.Ytglokdfdogmmhaa


/- Graphs and lists that come in as arguments. -/
namespace Go.Proofs.Ytglokdfdogmmhaa
open Go
set_option linter.unusedVariables false
set_option linter.unusedSimpArgs false
set_option maxRecDepth 10000

theorem own : ownKnob Try.prog.godebug = none := by kernel_rfl
theorem laid : laidOutB Try.prog = true := by kernel_rfl
def plains : List TypeId := [25, 22, 3, 23, 43, 5]
theorem plain : plainB Try.prog plains = true := by kernel_rfl
theorem rowed : (plains.all fun t => decide (t < Try.prog.types.size)) = true := by kernel_rfl
theorem inTable : ∀ t ∈ plains, t < Try.prog.types.size := fun t ht => by simpa using List.all_eq_true.1 rowed t ht
theorem reads : (plains.all fun t => Try.prog.readableRec t) = true := by kernel_rfl
theorem readable {ts : List TypeId} (h : ts.all (fun t => memB t plains) = true) : ∀ t ∈ ts, Try.prog.readableRec t = true ∧ t < Try.prog.types.size := fun t ht =>
  have hm : t ∈ plains := memB_iff.1 (List.all_eq_true.1 h t ht)
  ⟨List.all_eq_true.1 reads t hm, inTable t hm⟩
theorem bytes3 : Try.prog.bytesOf 3 = 8 := by kernel_rfl
theorem bytes43 : Try.prog.bytesOf 43 = 32 := by kernel_rfl
theorem cells3 : Try.prog.cellsOf 3 = 1 := by kernel_rfl
theorem cells22 : Try.prog.cellsOf 22 = 1 := by kernel_rfl
theorem cells23 : Try.prog.cellsOf 23 = 1 := by kernel_rfl
theorem cells25 : Try.prog.cellsOf 25 = 2 := by kernel_rfl
theorem cells43 : Try.prog.cellsOf 43 = 4 := by kernel_rfl

def I64 (x : Int) : Prop := -9223372036854775808 ≤ x ∧ x ≤ 9223372036854775807
theorem i64_of {m : Int} (h : IntKind.min .i64 ≤ m ∧ m ≤ IntKind.max .i64) : I64 m := by
  simpa [I64, IntKind.min, IntKind.max, IntKind.signed, IntKind.bits] using h
theorem ints_rows : ∀ (ls : List (List D)), (∀ l ∈ ls, Typed Try.prog 3 l) → ∃ xs : List Int, xs.length = ls.length ∧ (∀ x ∈ xs, I64 x) ∧ ∀ i, i < ls.length → ls.getD i [] = [.v (.int .i64 (xs.getD i 0))]
  | [], _ => ⟨[], rfl, (fun x hx => by cases hx), fun i hi => by simp at hi⟩
  | l :: r, h => by
    obtain ⟨n, rfl, h1, h2⟩ := typed_int Try.underlying3 (h l (by simp))
    obtain ⟨xs, g1, g2, g3⟩ := ints_rows r (fun x hx => h x (by simp [hx]))
    refine ⟨n :: xs, by simp [g1], fun x hx => ?_, fun i hi => ?_⟩
    · rcases List.mem_cons.1 hx with rfl | hx
      · exact i64_of ⟨h1, h2⟩
      · exact g2 x hx
    · cases i with
      | zero => rfl
      | succ i => simpa using g3 i (by simpa using hi)
theorem ints_of {x : D} (h : Typed Try.prog 22 [x]) : ∃ xs : List Int, (∀ y ∈ xs, I64 y) ∧ xs.length ≤ 17592186044416 ∧ ∀ M v, DenD M x v → DenD M (intsD xs) v := by
  obtain ⟨ls, e, hl, hls⟩ := typed_slice Try.underlying22 h
  obtain ⟨xs, h1, h2, h3⟩ := ints_rows ls hls
  rw [bytes3] at hl
  refine ⟨xs, h2, by omega, fun M v hd => ?_⟩
  simp only [List.cons.injEq, and_true] at e
  subst e
  rw [cells3] at hd
  unfold intsD rowsD
  rw [h1]
  exact denD_rowsLe hd (fun i hi => by rw [h3 i hi]; rfl)
def EdgOK (e : Edg) : Prop := (-9223372036854775808 ≤ e.f ∧ e.f ≤ 9223372036854775807) ∧ (-9223372036854775808 ≤ e.t ∧ e.t ≤ 9223372036854775807) ∧ (-9223372036854775808 ≤ e.w ∧ e.w ≤ 9223372036854775807) ∧ -9223372036854775808 ≤ e.d ∧ e.d ≤ 9223372036854775807
theorem edge_of {l : List D} (h : Typed Try.prog 43 l) : ∃ e : Edg, l = e.ds ∧ EdgOK e := by
  cases h with
  | int hu h => rw [Try.underlying43] at hu; cases hu
  | bool hu => rw [Try.underlying43] at hu; cases hu
  | str hu hs => rw [Try.underlying43] at hu; cases hu
  | array hu hl h => rw [Try.underlying43] at hu; cases hu
  | slice hu hl h => rw [Try.underlying43] at hu; cases hu
  | struct hu hl h =>
    rw [Try.underlying43] at hu
    cases hu
    rw [cells43] at hl
    match l, hl with
    | [a, b, c, d], _ =>
    have h0 : Typed Try.prog 3 (([a, b, c, d].drop 0).take (Try.prog.cellsOf 3)) := h 0 _ rfl
    have h1 : Typed Try.prog 3 (([a, b, c, d].drop 1).take (Try.prog.cellsOf 3)) := h 1 _ rfl
    have h2 : Typed Try.prog 3 (([a, b, c, d].drop 2).take (Try.prog.cellsOf 3)) := h 2 _ rfl
    have h3 : Typed Try.prog 3 (([a, b, c, d].drop 3).take (Try.prog.cellsOf 3)) := h 3 _ rfl
    rw [cells3] at h0 h1 h2 h3
    obtain ⟨n0, e0, k0⟩ := typed_int Try.underlying3 h0
    obtain ⟨n1, e1, k1⟩ := typed_int Try.underlying3 h1
    obtain ⟨n2, e2, k2⟩ := typed_int Try.underlying3 h2
    obtain ⟨n3, e3, k3⟩ := typed_int Try.underlying3 h3
    have ea : a = .v (.int .i64 n0) := by simpa using e0
    have eb : b = .v (.int .i64 n1) := by simpa using e1
    have ec : c = .v (.int .i64 n2) := by simpa using e2
    have ed : d = .v (.int .i64 n3) := by simpa using e3
    subst ea; subst eb; subst ec; subst ed
    exact ⟨⟨n0, n1, n2, n3⟩, rfl, i64_of k0, i64_of k1, i64_of k2, i64_of k3⟩
theorem edges_rows : ∀ (ls : List (List D)), (∀ l ∈ ls, Typed Try.prog 43 l) → ∃ es : List Edg, es.length = ls.length ∧ (∀ e ∈ es, EdgOK e) ∧ ∀ i, i < ls.length → ls.getD i [] = (es.getD i default).ds
  | [], _ => ⟨[], rfl, (fun x hx => by cases hx), fun i hi => by simp at hi⟩
  | l :: r, h => by
    obtain ⟨e, rfl, h1⟩ := edge_of (h l (by simp))
    obtain ⟨xs, g1, g2, g3⟩ := edges_rows r (fun x hx => h x (by simp [hx]))
    refine ⟨e :: xs, by simp [g1], fun x hx => ?_, fun i hi => ?_⟩
    · rcases List.mem_cons.1 hx with rfl | hx
      · exact h1
      · exact g2 x hx
    · cases i with
      | zero => rfl
      | succ i => simpa using g3 i (by simpa using hi)
theorem edges_of {x : D} (h : Typed Try.prog 23 [x]) : ∃ es : List Edg, (∀ e ∈ es, EdgOK e) ∧ es.length ≤ 17592186044416 ∧ ∀ M v, DenD M x v → DenD M (edgesD es) v := by
  obtain ⟨ls, e, hl, hls⟩ := typed_slice Try.underlying23 h
  obtain ⟨xs, h1, h2, h3⟩ := edges_rows ls hls
  rw [bytes43] at hl
  refine ⟨xs, h2, by omega, fun M v hd => ?_⟩
  simp only [List.cons.injEq, and_true] at e
  subst e
  rw [cells43] at hd
  unfold edgesD
  rw [h1]
  exact denD_rowsLe hd (fun i hi => h3 i hi)
theorem graph_of {l : List D} (h : Typed Try.prog 25 l) : ∃ g : Gr, g.Sz ∧ ∀ M v, DenD M (.agg l) v → DenD M (.agg g.ds) v := by
  cases h with
  | int hu h => rw [Try.underlying25] at hu; cases hu
  | bool hu => rw [Try.underlying25] at hu; cases hu
  | str hu hs => rw [Try.underlying25] at hu; cases hu
  | array hu hl h => rw [Try.underlying25] at hu; cases hu
  | slice hu hl h => rw [Try.underlying25] at hu; cases hu
  | struct hu hl h =>
    rw [Try.underlying25] at hu
    cases hu
    rw [cells25] at hl
    match l, hl with
    | [a, b], _ =>
    have h0 : Typed Try.prog 22 (([a, b].drop 0).take (Try.prog.cellsOf 22)) := h 0 _ rfl
    have h1 : Typed Try.prog 23 (([a, b].drop 1).take (Try.prog.cellsOf 23)) := h 1 _ rfl
    rw [cells22] at h0
    rw [cells23] at h1
    obtain ⟨xs, x1, x2, x3⟩ := ints_of h0
    obtain ⟨es, e1, e2, e3⟩ := edges_of h1
    refine ⟨⟨xs, es⟩, ⟨by show xs.length ≤ _; omega, by show es.length ≤ _; omega, x1, e1⟩, fun M v hd => ?_⟩
    cases hd with
    | agg _ vs hl hv =>
      refine .agg _ vs hl fun j x y hx hy => ?_
      match j with
      | 0 =>
        simp at hx; subst hx
        exact x3 _ _ (hv 0 a y rfl hy)
      | 1 =>
        simp at hx; subst hx
        exact e3 _ _ (hv 1 b y rfl hy)
      | j + 2 => simp at hx
theorem denL1 {V : Vals} {M : Mem} {x : D} {v : Value} (h : DenD M x v) : DenL V M [.d x] [v] := ⟨rfl, fun j y z hy hz => by
  cases j with
  | zero => simp at hy hz; subst hy; subst hz; exact .d _ _ h
  | succ j => simp at hy⟩
theorem denL2 {V : Vals} {M : Mem} {x y : D} {v w : Value} (h : DenD M x v) (k : DenD M y w) : DenL V M [.d x, .d y] [v, w] := ⟨rfl, fun j a b ha hb => by
  match j with
  | 0 => simp at ha hb; subst ha; subst hb; exact .d _ _ h
  | 1 => simp at ha hb; subst ha; subst hb; exact .d _ _ k
  | j + 2 => simp at ha⟩
end Go.Proofs.Ytglokdfdogmmhaa


/- A slice of slices whose rows grow: nil rows as a family; one row out of the family and back; all rows frozen. No program in sight. -/
namespace Go.Proofs.Ytglokdfdogmmhaa
open Go
set_option linter.unusedVariables false
set_option linter.unusedSimpArgs false
variable {P : Program} {S : St} {ro : Ro} {ops : Array Oper} {E : Env}

theorem bk_inj {l m : Nat} (h : bk l = bk m) : l = m := by unfold bk at h; omega
abbrev noRows (n : Nat) : List (List Int) := List.replicate n []
theorem noRows_at (n i : Nat) : (noRows n).getD i [] = [] := by simp [noRows, List.getD_eq_getElem?_getD, List.getElem?_replicate]; split <;> rfl
theorem matC_at {rows : List (List Int)} {j : Nat} {x : AV} (h : (matC rows)[j]? = some x) : j < rows.length ∧ x = .own (inn j) (rows.getD j []).length := by
  have hj : j < rows.length := by have := (List.getElem?_eq_some_iff.1 h).1; rwa [matC_length] at this
  rw [matC_get hj] at h; injection h with h; exact ⟨hj, h.symm⟩

/-- Nil rows as rows that the function owns. -/
theorem Ghost.famNil {l n : Nat} (hl : l < 400) (hb : S.get (bk l) = some (.blk (.appv (List.replicate n nilS)))) (hno : ∀ i, S.get (bk (inn i)) = none) (hm : ∀ i, NM S (inn i) []) (hk : ∀ k ∈ E.keep, k < 400) {T : St}
    (hT : ∀ m c, T.get m = some c → (m = bk l ∧ c = .blk (.appv (matC (noRows n)))) ∨ (∃ i, m = bk (inn i) ∧ c = rowB []) ∨ (m ≠ bk l ∧ S.get m = some c)) : Ghost E S T := by
  rintro ac w ⟨V, M, hA, hW⟩
  obtain ⟨V', hV'⟩ : ∃ V' : Vals, V' = ⟨V.ρ, fun k => if 400 ≤ k then none else V.κ k⟩ := ⟨_, rfl⟩
  have hρ : ∀ k, V'.ρ k = V.ρ k := fun k => by rw [hV']
  have hκ1 : ∀ k, k < 400 → V'.κ k = V.κ k := fun k h => by rw [hV']; show (if 400 ≤ k then none else V.κ k) = V.κ k; exact if_neg (by omega)
  have hκ2 : ∀ i, V'.κ (inn i) = none := fun i => by
    have h4 : 400 ≤ inn i := by unfold inn; omega
    rw [hV']; show (if 400 ≤ inn i then none else V.κ (inn i)) = none; exact if_pos h4
  have hinn : ∀ k, 400 ≤ k → ∃ i, k = inn i := fun k h => ⟨k - 400, by unfold inn; omega⟩
  have hag : ∀ {m c}, S.get m = some c → ∀ k, CMent c k → V'.ρ k = V.ρ k ∧ V'.κ k = V.κ k := fun {m c} e k hc => by
    by_cases h4 : 400 ≤ k
    · obtain ⟨i, rfl⟩ := hinn k h4
      exact absurd hc (hm i m c e (by simp))
    · exact ⟨hρ k, hκ1 k (by omega)⟩
  have hH : ∀ k, HasB V' T k → HasB V S k ∧ V'.ρ k = V.ρ k := by
    rintro k ⟨⟨B, e⟩, h⟩
    have hk4 : k < 400 := by
      by_cases h4 : 400 ≤ k
      · obtain ⟨i, rfl⟩ := hinn k h4; exact absurd (hκ2 i) h
      · omega
    refine ⟨⟨?_, by rw [← hκ1 k hk4]; exact h⟩, hρ k⟩
    rcases hT _ _ e with ⟨h1, _⟩ | ⟨i, h1, _⟩ | ⟨_, h2⟩
    · exact ⟨_, bk_inj h1 ▸ hb⟩
    · have := bk_inj h1; unfold inn at this; omega
    · exact ⟨_, h2⟩
  refine ⟨V', M, ⟨fun t x e => ?_, hA.size, hA.defers⟩, ?_⟩
  · rcases hT _ _ e with ⟨h1, _⟩ | ⟨i, h1, _⟩ | ⟨_, h2⟩
    · exact absurd h1 (sl_ne_bk t l)
    · exact absurd h1 (sl_ne_bk t _)
    · obtain ⟨v, hv, hd⟩ := hA.slots t x h2
      exact ⟨v, hv, hd.mono (Mem.le_refl _) fun k hk' => hag h2 k hk'⟩
  · exact
    { blks := fun k B e => by
        rcases hT _ _ e with ⟨h1, h2⟩ | ⟨i, h1, h2⟩ | ⟨h1, h2⟩
        · have := bk_inj h1; subst this
          injection h2 with h2; subst h2
          have hblk : appvAt V M w k (List.replicate n nilS) := hW.blks k _ hb
          show appvAt V' M w k (matC (noRows n))
          unfold appvAt at *
          rw [hρ, hκ1 k hl]
          cases hk' : V.κ k with
          | none =>
            rw [hk'] at hblk
            simp only at hblk ⊢
            have : n = 0 := by simpa using hblk
            subst this; rfl
          | some cap =>
            rw [hk'] at hblk
            obtain ⟨g1, vs, t, g2, g3, g4⟩ := hblk
            refine ⟨by rw [matC_length]; simpa using g1, vs, t, g2, g3, fun j x hx => ?_⟩
            obtain ⟨hj, rfl⟩ := matC_at hx
            rw [noRows_at]
            have hj : j < n := by simpa using hj
            obtain ⟨v, hv, hd⟩ := g4 j nilS (by simp [List.getElem?_replicate, hj])
            refine ⟨v, hv, ?_⟩
            rw [den_v hd]
            exact .ownNil _ (hκ2 j)
        · have := bk_inj h1; subst this
          injection h2 with h2; subst h2
          refine ⟨rfl, fun c hc => ?_, ?_⟩
          · simp only [List.mem_singleton] at hc; subst hc; rfl
          · rw [hκ2]; rfl
        · have hk4 : k < 400 := by
            by_cases h4 : 400 ≤ k
            · obtain ⟨i, rfl⟩ := hinn k h4; rw [hno i] at h2; cases h2
            · omega
          exact (hW.blks k B h2).turn (Mem.le_refl _) ⟨hρ k, hκ1 k hk4⟩ (fun k' hk' => hag h2 k' hk') fun _ => rfl
      inj := fun a b ha hb' hne => by
        obtain ⟨x1, x2⟩ := hH a ha
        obtain ⟨y1, y2⟩ := hH b hb'
        rw [x2, y2]; exact hW.inj a b x1 y1 hne
      sep := fun a ha => by obtain ⟨x1, x2⟩ := hH a ha; rw [x2]; exact hW.sep a x1
      fresh := fun a ha => by obtain ⟨x1, x2⟩ := hH a ha; rw [x2]; exact hW.fresh a x1
      bd := fun a ha => by obtain ⟨x1, x2⟩ := hH a ha; rw [x2]; exact hW.bd a x1
      mem := hW.mem, mle := hW.mle, mnew := hW.mnew
      keep := fun k h => by rw [hρ, hκ1 k (hk k h)]; exact hW.keep k h
      frame := hW.frame }

/-! One row out of the family. -/
def famBut (rows : List (List Int)) (f : Nat) : St := ((List.range rows.length).filter fun i => !decide (i = f)).map fun i => (bk (inn i), rowB (rows.getD i []))
theorem but_get {rows : List (List Int)} {f i : Nat} : (famBut rows f).get (bk (inn i)) = if i < rows.length ∧ i ≠ f then some (rowB (rows.getD i [])) else none := by
  unfold famBut; rw [mapGet]; simp
theorem but_self {rows : List (List Int)} {f : Nat} : (famBut rows f).get (bk (inn f)) = none := by rw [but_get]; simp
theorem but_small {rows : List (List Int)} {f n : Nat} (h : n < 800) : (famBut rows f).get n = none := mapGet_small _ h _
theorem but_only {rows : List (List Int)} {f n : Nat} {c : Cont} (h : (famBut rows f).get n = some c) : ∃ i, i < rows.length ∧ i ≠ f ∧ n = bk (inn i) ∧ c = rowB (rows.getD i []) := by
  obtain ⟨i, hi, h1, h2⟩ := mapGet_only _ _ h
  simp at hi
  exact ⟨i, hi.1, hi.2, h1, h2⟩
theorem but_le {rows : List (List Int)} {f : Nat} : (famBut rows f).le (fam rows) := fun m c e => by
  obtain ⟨i, h1, h2, rfl, rfl⟩ := but_only e
  exact fam_get h1
theorem nm_but {rows : List (List Int)} {f l : Nat} {ns : List Nat} : NM (famBut rows f) l ns := fun n c e _ => by
  obtain ⟨i, h1, h2, rfl, rfl⟩ := but_only e
  exact fam_ment (fam_get h1)
theorem but_skip {rows : List (List Int)} {f n : Nat} {c : Cont} (h : (famBut rows f).le S) (hn : Nat.blt n 800 = true) : (famBut rows f).le ((n, c) :: S) := fun m d e => by
  have := Nat.le_of_ble_eq_true hn
  obtain ⟨i, _, _, rfl, rfl⟩ := but_only e
  rw [get_cons, if_neg (by unfold bk inn; omega)]
  exact h _ _ e
theorem but_back {rows : List (List Int)} {f : Nat} {r : List Int} {len : Nat} (h : (famBut rows f).le S) (hl : r.length = len) : (fam (rows.set f r)).le ((bk (inn f), .blk (.app 1 len [.ints .i64 r])) :: S) := fun m d e => by
  obtain ⟨j, hj, rfl, rfl⟩ := fam_only e
  simp only [List.length_set] at hj
  rw [get_cons]
  by_cases hij : f = j
  · subst hij
    rw [if_pos rfl]
    simp [List.getD_eq_getElem?_getD, hj, rowB, hl]
  · rw [if_neg (fun e => hij (inn_inj.1 e))]
    have e2 : (rows.set f r).getD j [] = rows.getD j [] := by simp [List.getD_eq_getElem?_getD, List.getElem?_set_ne hij]
    rw [e2]
    exact h _ _ (by rw [but_get, if_pos ⟨hj, Ne.symm hij⟩])
theorem matC_put {rows : List (List Int)} {f : Nat} {r : List Int} : (matC rows).set f (.own (inn f) r.length) = matC (rows.set f r) := by
  apply List.ext_getElem?
  intro j
  rw [List.getElem?_set, matC_length]
  by_cases hj : j < rows.length
  · rw [matC_get (rows := rows.set f r) (by simpa using hj)]
    by_cases hij : f = j
    · subst hij; simp [List.getD_eq_getElem?_getD, hj]
    · rw [if_neg hij, matC_get hj]; simp [List.getD_eq_getElem?_getD, List.getElem?_set_ne hij]
  · have h1 : (matC (rows.set f r))[j]? = none := List.getElem?_eq_none (by rw [matC_length]; simp; omega)
    rw [h1]
    split
    · rename_i hij; rw [if_neg (by omega)]
    · exact List.getElem?_eq_none (by rw [matC_length]; omega)
theorem matC_but {rows : List (List Int)} {f l len : Nat} (hl : l < 400) : ∀ x ∈ (matC rows).set f (.own l len), ¬ Ment x (inn f) := by
  intro x hx hm
  obtain ⟨j, hj⟩ := List.mem_iff_getElem?.1 hx
  rw [List.getElem?_set, matC_length] at hj
  split at hj
  · split at hj
    · injection hj with hj; subst hj
      generalize he : inn f = k at hm
      cases hm with
      | own => unfold inn at he; omega
    · cases hj
  · rename_i hne
    obtain ⟨_, rfl⟩ := matC_at hj
    generalize he : inn f = k at hm
    cases hm with
    | own => unfold inn at he; exact hne (by omega)

/-! All rows frozen. -/
/-- A row of ours in a slice's cells becomes immutable. -/
theorem Ghost.freezeV {lb j l n len : Nat} {cs : List AV} {cols : List Col} {g : Nat → List D} (hb : S.get (bk lb) = some (.blk (.appv cs))) (hj : cs[j]? = some (.own l len)) (hl : S.get (bk l) = some (.blk (.app n len cols))) (hne : l ≠ lb)
    (hg : ∀ i, i < len → cols.map (Col.at · i) = g i) : Ghost E S ((bk lb, .blk (.appv (cs.set j (.d (.rows n len g))))) :: St.del (bk l) S) := by
  rintro a w ⟨V, M, ha, hw⟩
  obtain ⟨M', hle, hden, ha', hw'⟩ := rep_freeze ha hw hl
  have hne' : bk l ≠ bk lb := fun e => hne (bk_inj e)
  have hb' : (St.del (bk l) S).get (bk lb) = some (.blk (.appv cs)) := by rw [St.get_del, if_neg hne']; exact hb
  refine ⟨V, M', ha'.blk _ _, hw'.reblk hb' ?_⟩
  have hblk : appvAt V M w lb cs := hw.blks lb _ hb
  show appvAt V M' w lb (cs.set j (.d (.rows n len g)))
  unfold appvAt at *
  cases hk : V.κ lb with
  | none => rw [hk] at hblk; simp only at hblk; subst hblk; simp at hj
  | some cap =>
    rw [hk] at hblk
    obtain ⟨h1, vs, t, h2, h3, h4⟩ := hblk
    refine ⟨by simpa using h1, vs, t, h2, h3, fun i x hx => ?_⟩
    rw [List.getElem?_set] at hx
    split at hx
    · rename_i hij
      subst hij
      split at hx
      · injection hx with hx
        subst hx
        obtain ⟨y, hy, hd⟩ := h4 j _ hj
        refine ⟨y, hy, ?_⟩
        have := hden y hd
        cases this with
        | d _ _ h => exact .d _ _ (denD_rowsLe h hg)
      · cases hx
    · obtain ⟨y, hy, hd⟩ := h4 i x hx
      exact ⟨y, hy, hd.mono hle fun _ _ => ⟨rfl, rfl⟩⟩
abbrev rowD (r : List Int) : D := .rows 1 r.length fun k => [.v (.int .i64 (r.getD k 0))]
def frz (rows : List (List Int)) (k : Nat) : List AV := (List.range rows.length).map fun i => if i < k then .d (rowD (rows.getD i [])) else .own (inn i) (rows.getD i []).length
def famFrom (rows : List (List Int)) (k : Nat) : St := ((List.range rows.length).filter fun i => decide (k ≤ i)).map fun i => (bk (inn i), rowB (rows.getD i []))
theorem frz_zero (rows : List (List Int)) : frz rows 0 = matC rows := by simp [frz, matC]
theorem frz_get {rows : List (List Int)} {k i : Nat} (hi : i < rows.length) : (frz rows k)[i]? = some (if i < k then .d (rowD (rows.getD i [])) else .own (inn i) (rows.getD i []).length) := by
  unfold frz; rw [List.getElem?_map, List.getElem?_range hi]; rfl
theorem frz_length (rows : List (List Int)) (k : Nat) : (frz rows k).length = rows.length := by simp [frz]
theorem frz_step {rows : List (List Int)} {k : Nat} : (frz rows k).set k (.d (rowD (rows.getD k []))) = frz rows (k + 1) := by
  apply List.ext_getElem?
  intro j
  rw [List.getElem?_set, frz_length]
  by_cases hj : j < rows.length
  · rw [frz_get hj, frz_get hj]
    by_cases hij : k = j
    · subst hij; rw [if_pos rfl, if_pos hj, if_pos (by omega)]
    · rw [if_neg hij]
      by_cases h2 : j < k
      · rw [if_pos h2, if_pos (by omega)]
      · rw [if_neg h2, if_neg (by omega)]
  · have h1 : ∀ q, (frz rows q)[j]? = none := fun q => List.getElem?_eq_none (by rw [frz_length]; omega)
    rw [h1, h1]
    split
    · rename_i e; rw [if_neg (by omega)]
    · rfl
theorem from_get {rows : List (List Int)} {k i : Nat} : (famFrom rows k).get (bk (inn i)) = if i < rows.length ∧ k ≤ i then some (rowB (rows.getD i [])) else none := by
  unfold famFrom; rw [mapGet]; simp
theorem from_only {rows : List (List Int)} {k n : Nat} {c : Cont} (h : (famFrom rows k).get n = some c) : ∃ i, i < rows.length ∧ k ≤ i ∧ n = bk (inn i) ∧ c = rowB (rows.getD i []) := by
  obtain ⟨i, hi, h1, h2⟩ := mapGet_only _ _ h
  simp at hi
  exact ⟨i, hi.1, hi.2, h1, h2⟩
theorem get_app (S T : St) (n : Nat) : St.get (S ++ T) n = match S.get n with | some c => some c | none => T.get n := by
  induction S with
  | nil => rfl
  | cons x r ih =>
    obtain ⟨m, c⟩ := x
    rw [List.cons_append, get_cons, get_cons, ih]
    by_cases h : m = n
    · rw [if_pos h, if_pos h]
    · rw [if_neg h, if_neg h]
/-- All rows of the family become immutable. -/
theorem Ghost.famFreeze {l : Nat} {rows : List (List Int)} {S' : St} (hl : l < 400) (hb : S.get (bk l) = some (.blk (.appv (matC rows)))) (hf : (fam rows).le S) (hle : S'.le S) (hn : ∀ i, S'.get (bk (inn i)) = none) :
    Ghost E S ((bk l, .blk (.appv (rows.map fun r => .d (rowD r)))) :: S') := by
  have hli : ∀ i, inn i ≠ l := fun i => by unfold inn; omega
  have hbi : ∀ i, bk (inn i) ≠ bk l := fun i e => hli i (bk_inj e)
  have key : ∀ k, k ≤ rows.length → Ghost E S (((bk l, .blk (.appv (frz rows k))) :: S') ++ famFrom rows k) := by
    intro k
    induction k with
    | zero =>
      intro _
      refine Ghost.weaken fun m c e => ?_
      rw [get_app, get_cons] at e
      by_cases hm : bk l = m
      · rw [if_pos hm] at e; simp only at e; rw [← hm, hb, ← frz_zero]; exact e
      · rw [if_neg hm] at e
        cases hs : S'.get m with
        | some d => rw [hs] at e; simp only at e; rw [← e]; exact hle _ _ hs
        | none =>
          rw [hs] at e; simp only at e
          obtain ⟨i, h1, _, rfl, rfl⟩ := from_only e
          exact hf _ _ (fam_get h1)
    | succ k ih =>
      intro hk
      refine (ih (by omega)).trans ?_
      have hg : St.get (((bk l, .blk (.appv (frz rows k))) :: S') ++ famFrom rows k) (bk (inn k)) = some (rowB (rows.getD k [])) := by
        rw [get_app, get_cons, if_neg (Ne.symm (hbi k)), hn k]
        show (famFrom rows k).get _ = _
        rw [from_get, if_pos ⟨by omega, Nat.le_refl _⟩]
      refine (Ghost.freezeV (lb := l) (j := k) (g := fun i => [.v (.int .i64 ((rows.getD k []).getD i 0))]) (by rw [get_app, get_cons, if_pos rfl]) (by rw [frz_get (by omega), if_neg (by omega)]) hg (hli k) (fun i hi => rfl)).trans (Ghost.weaken fun m c e => ?_)
      rw [frz_step, get_cons]
      rw [get_app, get_cons] at e
      by_cases hm : bk l = m
      · rw [if_pos hm] at e ⊢; exact e
      · rw [if_neg hm] at e ⊢
        rw [St.get_del, get_app, get_cons, if_neg hm]
        cases hs : S'.get m with
        | some d =>
          rw [hs] at e; simp only at e
          rw [if_neg (fun e2 => by rw [← e2, hn k] at hs; cases hs)]
          exact e
        | none =>
          rw [hs] at e; simp only at e
          obtain ⟨i, h1, h2, rfl, rfl⟩ := from_only e
          rw [if_neg (fun e2 => by have := inn_inj.1 e2; omega)]
          show (famFrom rows k).get _ = _
          rw [from_get, if_pos ⟨h1, by omega⟩]
  refine (key rows.length (Nat.le_refl _)).trans (Ghost.weaken fun m c e => ?_)
  have hfr : frz rows rows.length = rows.map fun r => .d (rowD r) := by
    apply List.ext_getElem?
    intro j
    by_cases hj : j < rows.length
    · rw [frz_get hj, if_pos hj, List.getElem?_map, List.getElem?_eq_getElem hj]
      simp [List.getD_eq_getElem?_getD, hj]
    · rw [List.getElem?_eq_none (by rw [frz_length]; omega), List.getElem?_eq_none (by simp; omega)]
  rw [hfr, get_app, e]
/-- Cells that are plain data. -/
theorem Ghost.fromAppv {l n : Nat} {xs : List D} (hb : S.get (bk l) = some (.blk (.appv (xs.map .d)))) (hn : xs.length = n) : Ghost E S ((bk l, .blk (.app 1 n [.ds xs])) :: S) := by
  refine (Ghost.reblk (B' := .app 1 n [.ds xs]) hb fun V M w h => ?_).trans (Ghost.weaken fun n c e => by rw [← cons_upd]; exact e)
  have h : appvAt V M w l (xs.map .d) := h
  unfold appvAt at h
  refine ⟨rfl, fun c hc => ?_, ?_⟩
  · simp only [List.mem_singleton] at hc; subst hc; exact hn
  · cases hk : V.κ l with
    | none =>
      rw [hk] at h
      simp only at h ⊢
      have : xs = [] := by simpa using h
      subst this; simpa using hn.symm
    | some cap =>
      rw [hk] at h
      obtain ⟨h4, vs, t, h5, h6, h7⟩ := h
      refine ⟨by simpa [hn] using h4, vs, t, h5, by simpa using h6, rfl, fun c hc => ?_, fun i j c hi hc => ?_⟩
      · simp only [List.mem_singleton] at hc; subst hc; exact hn
      · cases j with
        | succ j => simp at hc
        | zero =>
          simp only [List.getElem?_cons_zero, Option.some.injEq] at hc
          subst hc
          have hil : i < xs.length := by omega
          obtain ⟨v, hv, hd⟩ := h7 i (.d xs[i]) (by simp [hil])
          refine ⟨v, by simpa using hv, ?_⟩
          cases hd with
          | d _ _ h =>
            simp only [Col.at, List.getD_eq_getElem?_getD, List.getElem?_eq_getElem hil, Option.getD_some]
            exact h

end Go.Proofs.Ytglokdfdogmmhaa
