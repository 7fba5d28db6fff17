/- The reference's Cycle; GraphLoop. -/
import Derived.Test.YtcnikeonaklkoaaLaw21B
import Derived.Test.YtcnikeonaklkoaaCycle
namespace Go.Proofs.Ytcnikeonaklkoaa
open Go
set_option linter.unusedVariables false
set_option linter.unusedSimpArgs false
set_option maxRecDepth 10000
set_option maxHeartbeats 1000000

theorem Pure.never {P : Program} {S : St} {o : Oper} {x : AV} (h : ∀ d, o.op ≠ .defer d) : Pure P S [] o false x := ⟨h, fun _ _ _ _ _ _ h => by cases h⟩
theorem cycleP_no {g : Gr} {l : List Int} {i : Nat} (hi : i < l.length) (h : g.cycAt l i = false) : g.cycleP l = (false, false) := by
  unfold Gr.cycleP
  rw [if_neg]
  rw [List.all_eq_true]
  intro hall
  have := hall i (by simpa using hi)
  rw [h] at this; cases this
theorem cycleP_yes {g : Gr} {l : List Int} (h : ∀ j, j < l.length → g.cycAt l j = true) : g.cycleP l = (decide ((0 : Int) < l.length), bif decide ((0 : Int) < l.length) then decide (g.sumTo l l.length ≤ 0) else false) := by
  have hall : (List.range l.length).all (g.cycAt l) = true := List.all_eq_true.2 fun j hj => h j (by simpa using hj)
  have e : decide ((0 : Int) < l.length) = decide (0 < l.length) := decide_eq_decide.2 (by omega)
  unfold Gr.cycleP
  rw [if_pos hall, e]
  cases decide (0 < l.length) <;> rfl
theorem cycAt_false {g : Gr} {l : List Int} {i : Nat} (h : ¬ ((0 ≤ l.getD i 0 ∧ (l.getD i 0).toNat < g.es.length) ∧ (0 ≤ l.getD (nxt l i) 0 ∧ (l.getD (nxt l i) 0).toNat < g.es.length) ∧ (g.eAt (l.getD (nxt l i) 0)).f = (g.eAt (l.getD i 0)).t ∧ ∀ k, k < i → (g.eAt (l.getD k 0)).f ≠ (g.eAt (l.getD i 0)).f)) : g.cycAt l i = false := by
  cases hc : g.cycAt l i with
  | false => rfl
  | true => exact absurd (cycAt_iff.1 hc) h
/-- soundpost/soundpostref21.Cycle -/
theorem spec19 {g : Gr} (hok : g.OK) (l : List Int) (hl : l.length ≤ 1048576) : FnSpec Try.prog 19 [g.av, .d (intsD l)] [] (.tup ([.v (.bool (g.cycleP l).1), .v (.bool (g.cycleP l).2)].map .d)) [] [] := by
  have hn1 := hok.n
  have hn2 := hok.m
  refine fnSpec_of (rs := [.tmp 4, .tmp 5]) Try.func19 rfl rfl (Nat.le_of_ble_eq_true rfl) (by simp [St.get]) fun E hk hn => ?_
  apply WPA.seq
  apply WPA.region
  · first | apply Trace.boxD 2 [] (.plain rfl) rfl rfl | apply Trace.box 2 [] (.plain rfl) rfl rfl rfl
    apply Trace.pu [] (.assign (.plain rfl))
    apply Trace.pu [] (.assign (.plain rfl))
    exact .nil _
  · exact keepOK_of hk hn rfl
  apply WPA.seq
  apply WPA.region
  · apply Trace.pu [] (.assign (.plain rfl))
    exact .nil _
  · exact keepOK_of hk hn rfl
  apply WPA.seq
  apply WPA.seq
  apply WPA.region
  · apply Trace.pu [] (.assign (.plain rfl))
    exact .nil _
  · exact keepOK_of hk hn rfl
  apply WPA.block
  refine WPA.loop (σ := Nat) (fun i => [(sl 1, .av (.d (intsD l))), (sl 2, .av (.loc 2 0)), (sl 6, .av (iv .i64 (g.sumTo l i))), (sl 7, .av (iv .i64 (i))), (bk 2, .blk (.data g.ds))]) (fun i => i ≤ l.length ∧ ∀ j, j < i → g.cycAt l j = true) (fun i => l.length - i) 0
    (St.le_cons rfl (St.le_cons rfl (St.le_cons (slI (by simp [Gr.sumTo, Gr.sumL])) (St.le_cons rfl (St.le_cons rfl (St.le_nil _)))))) ⟨Nat.zero_le _, fun j h => by omega⟩ fun i hi => ?_
  apply WPA.seq
  apply WPA.seq
  apply WPA.region
  · apply Trace.pu [] (.move (.plain rfl))
    apply Trace.pu [] (.move (.plain rfl))
    apply Trace.pu [] (.len rfl Try.underlying22 (.plain rfl) rfl)
    apply Trace.pu [] (.cmp (.plain rfl) (.plain rfl) rfl)
    exact .nil _
  · exact keepOK_of hk hn rfl
  refine WPA.cond rfl (fun hc1 => ?_) (fun hc1 => ?_)
  · have hlt : i < l.length := by simpa using hc1
    obtain ⟨x, hx⟩ : ∃ x, l.getD i 0 = x := ⟨_, rfl⟩
    have hx2 : l.getD ((i : Nat) : Int).toNat 0 = x := hx
    apply WPA.skip
    apply WPA.seq
    apply WPA.block
    apply WPA.seq
    apply WPA.seq
    apply WPA.draw mixed
    · apply Trace.pu [] (.move (.plain rfl))
      apply Trace.pu [] (.move (.plain rfl))
      first | apply Trace.pu [] (.indexRows el22 (.plain rfl) (.plain rfl) (fun _ => ⟨by omega, by omega⟩)) | apply Trace.pu [] (.indexOwn el22 (.plain rfl) (.plain rfl) (fun _ => ⟨by omega, by omega⟩)) | apply Trace.pu [] (.indexSl el22 (.plain rfl) (.plain rfl) (fun _ => ⟨by omega, by omega⟩))
      first | apply Trace.pu [_] (.loadLoc1D ty3 (.plain rfl) rfl rfl) | apply Trace.pu [_] (.loadLoc1 ty3 (.plain rfl) rfl rfl) | apply Trace.pu [] (.loadRp1 ty3 (.plain rfl) rfl) | apply Trace.pu [_] (.loadCol1 ty3 (.plain rfl) rfl rfl rfl (fun _ => by omega))
      apply Trace.pu [] (.cmp (.plain rfl) (.plain rfl) rfl)
      apply Trace.pu [] (.move (.plain rfl))
      apply Trace.pg [] rfl (.move (.plain rfl))
      apply Trace.pg [] rfl (.move (.plain rfl))
      first | apply Trace.pg [] rfl (.indexRows el22 (.gd rfl (fun h => h)) (.gd rfl (fun h => h)) (fun _ => ⟨by omega, by omega⟩)) | apply Trace.pg [] rfl (.indexOwn el22 (.gd rfl (fun h => h)) (.gd rfl (fun h => h)) (fun _ => ⟨by omega, by omega⟩)) | apply Trace.pg [] rfl (.indexSl el22 (.gd rfl (fun h => h)) (.gd rfl (fun h => h)) (fun _ => ⟨by omega, by omega⟩))
      first | apply Trace.pg [_] rfl (.loadLoc1D ty3 (.gd rfl (fun h => h)) rfl rfl) | apply Trace.pg [_] rfl (.loadLoc1 ty3 (.gd rfl (fun h => h)) rfl rfl) | apply Trace.pg [] rfl (.loadRp1 ty3 (.gd rfl (fun h => h)) rfl) | apply Trace.pg [_] rfl (.loadCol1 ty3 (.gd rfl (fun h => h)) rfl rfl rfl (fun _ => by omega))
      apply Trace.pg [] rfl (.fieldAddr fl25_1 (.plain rfl) rfl)
      first | apply Trace.pg [_] rfl (.loadLoc1D ty23 (.gd rfl (fun h => h)) rfl rfl) | apply Trace.pg [_] rfl (.loadLoc1 ty23 (.gd rfl (fun h => h)) rfl rfl) | apply Trace.pg [] rfl (.loadRp1 ty23 (.gd rfl (fun h => h)) rfl) | apply Trace.pg [_] rfl (.loadCol1 ty23 (.gd rfl (fun h => h)) rfl rfl rfl (fun _ => by omega))
      apply Trace.pg [] rfl (.len rfl Try.underlying23 (.gd rfl (fun h => h)) rfl)
      apply Trace.pg [] rfl (.cmp (.gd rfl (fun h => h)) (.gd rfl (fun h => h)) rfl)
      apply Trace.pu [] (.pick (.plain rfl) (.plain rfl) (.gd rfl (by simp)))
      exact .nil _
    · rfl
    · exact keepOK_of hk hn rfl
    refine WPA.cond rfl (fun hc2 => ?_) (fun hc2 => ?_)
    · have hM : g.cycleP l = (false, false) := cycleP_no hlt (cycAt_false fun h => by
        have h9 : (bif decide (l.getD ((i : Nat) : Int).toNat 0 < 0) then true else decide ((g.es.length : Int) ≤ l.getD ((i : Nat) : Int).toNat 0)) = true := hc2
        rw [bif_or, Bool.or_eq_true, decide_eq_true_eq, decide_eq_true_eq] at h9
        omega)
      apply WPA.seq
      apply WPA.region
      · apply Trace.pu [] (.assign (.plain rfl))
        apply Trace.pu [] (.assign (.plain rfl))
        exact .nil _
      · exact keepOK_of hk hn rfl
      apply WPA.ret
      refine ⟨.inr rfl, ⟨_, (.cons (.tmp rfl) (.cons (.tmp rfl) .nil)), ?_⟩, by simp [St.get]⟩
      rw [hM]; rfl
    · obtain ⟨hx0, hxm⟩ : 0 ≤ x ∧ x.toNat < g.es.length := by
        have h9 : (bif decide (l.getD ((i : Nat) : Int).toNat 0 < 0) then true else decide ((g.es.length : Int) ≤ l.getD ((i : Nat) : Int).toNat 0)) = false := hc2
        rw [bif_or, Bool.or_eq_false_iff, decide_eq_false_iff_not, decide_eq_false_iff_not] at h9
        omega
      obtain ⟨e, he⟩ : ∃ e, g.es.getD x.toNat default = e := ⟨_, rfl⟩
      have hem : e ∈ g.es := by rw [← he]; exact (Gr.edge hok hxm).1
      obtain ⟨he1, he2, he3, he4, he5, he6, he7, he8, he9, he10⟩ := Gr.edge_mem hok hem
      have hxe : g.eAt (l.getD i 0) = e := by rw [hx]; exact he
      have hnl : nxt l i < l.length := Nat.mod_lt _ (by omega)
      have hrem : ((i : Int) + 1).tmod (l.length : Int) = ((nxt l i : Nat) : Int) := (Int.ofNat_tmod (i + 1) l.length).symm
      obtain ⟨q, hq⟩ : ∃ q, nxt l i = q := ⟨_, rfl⟩
      obtain ⟨y, hy⟩ : ∃ y, l.getD (nxt l i) 0 = y := ⟨_, rfl⟩
      have hy2 : l.getD ((q : Nat) : Int).toNat 0 = y := by rw [← hq]; exact hy
      rw [hq] at hrem hnl
      apply WPA.skip
      apply WPA.seq
      apply WPA.draw mixed
      · apply Trace.pu [] (.fieldAddr fl25_1 (.plain rfl) rfl)
        first | apply Trace.pu [_] (.loadLoc1D ty23 (.plain rfl) rfl rfl) | apply Trace.pu [_] (.loadLoc1 ty23 (.plain rfl) rfl rfl) | apply Trace.pu [] (.loadRp1 ty23 (.plain rfl) rfl) | apply Trace.pu [_] (.loadCol1 ty23 (.plain rfl) rfl rfl rfl (fun _ => by omega))
        apply Trace.pu [] (.move (.plain rfl))
        apply Trace.pu [] (.move (.plain rfl))
        first | apply Trace.pu [] (.indexRows el22 (.plain rfl) (.plain rfl) (fun _ => ⟨by omega, by omega⟩)) | apply Trace.pu [] (.indexOwn el22 (.plain rfl) (.plain rfl) (fun _ => ⟨by omega, by omega⟩)) | apply Trace.pu [] (.indexSl el22 (.plain rfl) (.plain rfl) (fun _ => ⟨by omega, by omega⟩))
        first | apply Trace.pu [_] (.loadLoc1D ty3 (.plain rfl) rfl rfl) | apply Trace.pu [_] (.loadLoc1 ty3 (.plain rfl) rfl rfl) | apply Trace.pu [] (.loadRp1 ty3 (.plain rfl) rfl) | apply Trace.pu [_] (.loadCol1 ty3 (.plain rfl) rfl rfl rfl (fun _ => by omega))
        apply Trace.pu [] ((Pure.indexRows el23 (.plain rfl) (.plain rfl) (fun _ => ⟨by omega, by omega⟩)).to (y := .rp e.ds) (by show AV.rp (g.es.getD (l.getD i 0).toNat default).ds = _; rw [hx, he]))
        first | apply Trace.pu [_] (.loadAllD ty40 (.plain rfl) rfl (by simp)) | apply Trace.pu [_] (.loadLocD ty40 (.plain rfl) rfl (fun _ => by simp)) | apply Trace.pu [_] (.loadLoc ty40 (.plain rfl) rfl (fun _ => Nat.le_of_ble_eq_true rfl)) | apply Trace.pu [] (.loadRp ty40 (.plain rfl) (fun _ => by decide)) | apply Trace.pu [] (.loadRp ty40 (.plain rfl) (fun _ => Nat.le_of_ble_eq_true rfl)) | apply Trace.pu [_] (.loadCol ty40 (.plain rfl) rfl rfl (fun _ => by decide) (fun _ => by omega)) | apply Trace.pu [_] (.loadArr ty40 (.plain rfl) rfl)
        apply Trace.alloc 8 [] (.data _) zo40 (cellsAs_data _) rfl
        first | apply Trace.storeD ty40 (.plain rfl) (.plain rfl) rfl rfl (by simp) (by simp [AV.oneB, single]) (by simp) (spliceL_all (by simp)) | apply Trace.storeD ty40 (.plain rfl) (.plain rfl) rfl rfl (by simp) (by simp [AV.oneB, single]) (by simp) rfl | apply Trace.storeDA ty40 (.plain rfl) (.plain rfl) rfl rfl (by simp) (by simp [AV.oneB, single]) (by simp) rfl | apply Trace.storeLoc ty40 (.plain rfl) (.plain rfl) rfl rfl (by simp) (by simp [AV.oneB, single]) (by simp) rfl | apply Trace.storeRow ty40 (.plain rfl) (.plain rfl) rfl rfl rfl rfl (by decide) (by simp [AV.oneB, single]) rfl (by omega)
        exact .nil _
      · rfl
      · exact keepOK_of hk hn rfl
      apply WPA.seq
      apply WPA.region
      · apply Trace.pu [] (.move (.plain rfl))
        apply Trace.pu [] (.move (.plain rfl))
        apply Trace.pu [] (.arith (.plain rfl) (.plain rfl) rfl (fun _ => bd64 (by omega)))
        apply Trace.pu [] (.move (.plain rfl))
        apply Trace.pu [] (.len rfl Try.underlying22 (.plain rfl) rfl)
        apply Trace.pu [] ((Pure.rem (.plain rfl) (.plain rfl) (fun _ => by omega)).to (y := iv .i64 (q : Nat)) (by rw [hrem]))
        first | apply Trace.pu [] (.indexRows el22 (.plain rfl) (.plain rfl) (fun _ => ⟨by omega, by omega⟩)) | apply Trace.pu [] (.indexOwn el22 (.plain rfl) (.plain rfl) (fun _ => ⟨by omega, by omega⟩)) | apply Trace.pu [] (.indexSl el22 (.plain rfl) (.plain rfl) (fun _ => ⟨by omega, by omega⟩))
        apply Trace.pu [] ((Pure.loadRp1 ty3 (.plain rfl) rfl).to (y := iv .i64 y) (congrArg (iv .i64) hy2))
        apply Trace.pu [] (.assign (.plain rfl))
        exact .nil _
      · exact keepOK_of hk hn rfl
      apply WPA.seq
      apply WPA.seq
      refine WPA.weaken (T := [(sl 1, .av (.d (intsD l))), (sl 2, .av (.loc 2 0)), (sl 6, .av (iv .i64 (g.sumTo l i))), (sl 7, .av (iv .i64 (i))), (sl 8, .av (.loc 8 0)), (sl 9, .av (iv .i64 (y))), (bk 2, .blk (.data g.ds)), (bk 8, .blk (.data e.ds))]) ?_ (St.le_cons rfl (St.le_cons rfl (St.le_cons rfl (St.le_cons rfl (St.le_cons rfl (St.le_cons rfl (St.le_cons rfl (St.le_cons rfl (St.le_nil _)))))))))
      rcases (by omega : y < 0 ∨ (¬ y < 0 ∧ (g.es.length : Int) ≤ y) ∨ (¬ y < 0 ∧ ¬ (g.es.length : Int) ≤ y)) with hy0 | ⟨hy0, hy1⟩ | ⟨hy0, hy1⟩
      · have hM : g.cycleP l = (false, false) := cycleP_no hlt (cycAt_false fun h => by rw [hy] at h; omega)
        apply WPA.draw mixed
        · apply Trace.pu [] (.move (.plain rfl))
          apply Trace.pu [] ((Pure.cmp (.plain rfl) (.plain rfl) rfl).to (y := bv true) (congrArg bv (decide_eq_true hy0)))
          apply Trace.pu [] (.move (.plain rfl))
          apply Trace.pg [] rfl (Pure.never (x := bv true) (by intro d h; cases h))
          apply Trace.pg [] rfl (Pure.never (x := bv true) (by intro d h; cases h))
          apply Trace.pg [] rfl (Pure.never (x := bv true) (by intro d h; cases h))
          apply Trace.pg [] rfl (Pure.never (x := bv true) (by intro d h; cases h))
          apply Trace.pg [] rfl (Pure.never (x := bv true) (by intro d h; cases h))
          apply Trace.pu [] (.pick (.plain rfl) (.plain rfl) (.gd rfl (by simp)))
          apply Trace.pu [] (.move (.plain rfl))
          apply Trace.pg [] rfl (Pure.never (x := bv true) (by intro d h; cases h))
          apply Trace.pg [] rfl (Pure.never (x := bv true) (by intro d h; cases h))
          apply Trace.pg [] rfl (Pure.never (x := bv true) (by intro d h; cases h))
          apply Trace.pg [] rfl (Pure.never (x := bv true) (by intro d h; cases h))
          apply Trace.pg [] rfl (Pure.never (x := bv true) (by intro d h; cases h))
          apply Trace.pg [] rfl (Pure.never (x := bv true) (by intro d h; cases h))
          apply Trace.pg [] rfl (Pure.never (x := bv true) (by intro d h; cases h))
          apply Trace.pg [] rfl (Pure.never (x := bv true) (by intro d h; cases h))
          apply Trace.pg [] rfl (Pure.never (x := bv true) (by intro d h; cases h))
          apply Trace.pu [] (.pick (.plain rfl) (.plain rfl) (.gd rfl (by simp)))
          exact .nil _
        · rfl
        · exact keepOK_of hk hn rfl
        refine WPA.cond rfl (fun hc3 => ?_) (fun hc3 => ?_)
        · apply WPA.seq
          apply WPA.region
          · apply Trace.pu [] (.assign (.plain rfl))
            apply Trace.pu [] (.assign (.plain rfl))
            exact .nil _
          · exact keepOK_of hk hn rfl
          apply WPA.ret
          refine ⟨.inr rfl, ⟨_, (.cons (.tmp rfl) (.cons (.tmp rfl) .nil)), ?_⟩, by simp [St.get]⟩
          rw [hM]; rfl
        · cases hc3
      · have hM : g.cycleP l = (false, false) := cycleP_no hlt (cycAt_false fun h => by rw [hy] at h; omega)
        apply WPA.draw mixed
        · apply Trace.pu [] (.move (.plain rfl))
          apply Trace.pu [] ((Pure.cmp (.plain rfl) (.plain rfl) rfl).to (y := bv false) (congrArg bv (decide_eq_false hy0)))
          apply Trace.pu [] (.move (.plain rfl))
          apply Trace.pg [] rfl (.move (.plain rfl))
          apply Trace.pg [] rfl (.fieldAddr fl25_1 (.plain rfl) rfl)
          first | apply Trace.pg [_] rfl (.loadLoc1D ty23 (.gd rfl (fun h => h)) rfl rfl) | apply Trace.pg [_] rfl (.loadLoc1 ty23 (.gd rfl (fun h => h)) rfl rfl) | apply Trace.pg [] rfl (.loadRp1 ty23 (.gd rfl (fun h => h)) rfl) | apply Trace.pg [_] rfl (.loadCol1 ty23 (.gd rfl (fun h => h)) rfl rfl rfl (fun _ => by omega))
          apply Trace.pg [] rfl (.len rfl Try.underlying23 (.gd rfl (fun h => h)) rfl)
          apply Trace.pg [] rfl ((Pure.cmp (.gd rfl (fun h => h)) (.gd rfl (fun h => h)) rfl).to (y := bv true) (congrArg bv (decide_eq_true hy1)))
          apply Trace.pu [] (.pick (.plain rfl) (.plain rfl) (.gd rfl (by simp)))
          apply Trace.pu [] (.move (.plain rfl))
          apply Trace.pg [] rfl (Pure.never (x := bv true) (by intro d h; cases h))
          apply Trace.pg [] rfl (Pure.never (x := bv true) (by intro d h; cases h))
          apply Trace.pg [] rfl (Pure.never (x := bv true) (by intro d h; cases h))
          apply Trace.pg [] rfl (Pure.never (x := bv true) (by intro d h; cases h))
          apply Trace.pg [] rfl (Pure.never (x := bv true) (by intro d h; cases h))
          apply Trace.pg [] rfl (Pure.never (x := bv true) (by intro d h; cases h))
          apply Trace.pg [] rfl (Pure.never (x := bv true) (by intro d h; cases h))
          apply Trace.pg [] rfl (Pure.never (x := bv true) (by intro d h; cases h))
          apply Trace.pg [] rfl (Pure.never (x := bv true) (by intro d h; cases h))
          apply Trace.pu [] (.pick (.plain rfl) (.plain rfl) (.gd rfl (by simp)))
          exact .nil _
        · rfl
        · exact keepOK_of hk hn rfl
        refine WPA.cond rfl (fun hc4 => ?_) (fun hc4 => ?_)
        · apply WPA.seq
          apply WPA.region
          · apply Trace.pu [] (.assign (.plain rfl))
            apply Trace.pu [] (.assign (.plain rfl))
            exact .nil _
          · exact keepOK_of hk hn rfl
          apply WPA.ret
          refine ⟨.inr rfl, ⟨_, (.cons (.tmp rfl) (.cons (.tmp rfl) .nil)), ?_⟩, by simp [St.get]⟩
          rw [hM]; rfl
        · cases hc4
      · obtain ⟨e2, hf2⟩ : ∃ e2, g.es.getD y.toNat default = e2 := ⟨_, rfl⟩
        have hye : g.eAt (l.getD (nxt l i) 0) = e2 := by rw [hy]; exact hf2
        have hym : 0 ≤ y ∧ y.toNat < g.es.length := by omega
        apply WPA.draw mixed
        · apply Trace.pu [] (.move (.plain rfl))
          apply Trace.pu [] ((Pure.cmp (.plain rfl) (.plain rfl) rfl).to (y := bv false) (congrArg bv (decide_eq_false hy0)))
          apply Trace.pu [] (.move (.plain rfl))
          apply Trace.pg [] rfl (.move (.plain rfl))
          apply Trace.pg [] rfl (.fieldAddr fl25_1 (.plain rfl) rfl)
          first | apply Trace.pg [_] rfl (.loadLoc1D ty23 (.gd rfl (fun h => h)) rfl rfl) | apply Trace.pg [_] rfl (.loadLoc1 ty23 (.gd rfl (fun h => h)) rfl rfl) | apply Trace.pg [] rfl (.loadRp1 ty23 (.gd rfl (fun h => h)) rfl) | apply Trace.pg [_] rfl (.loadCol1 ty23 (.gd rfl (fun h => h)) rfl rfl rfl (fun _ => by omega))
          apply Trace.pg [] rfl (.len rfl Try.underlying23 (.gd rfl (fun h => h)) rfl)
          apply Trace.pg [] rfl ((Pure.cmp (.gd rfl (fun h => h)) (.gd rfl (fun h => h)) rfl).to (y := bv false) (congrArg bv (decide_eq_false hy1)))
          apply Trace.pu [] (.pick (.plain rfl) (.plain rfl) (.gd rfl (by simp)))
          apply Trace.pu [] (.move (.plain rfl))
          apply Trace.pg [] rfl (.fieldAddr fl25_1 (.plain rfl) rfl)
          first | apply Trace.pg [_] rfl (.loadLoc1D ty23 (.gd rfl (fun h => h)) rfl rfl) | apply Trace.pg [_] rfl (.loadLoc1 ty23 (.gd rfl (fun h => h)) rfl rfl) | apply Trace.pg [] rfl (.loadRp1 ty23 (.gd rfl (fun h => h)) rfl) | apply Trace.pg [_] rfl (.loadCol1 ty23 (.gd rfl (fun h => h)) rfl rfl rfl (fun _ => by omega))
          apply Trace.pg [] rfl (.move (.plain rfl))
          apply Trace.pg [] rfl ((Pure.indexRows el23 (.gd rfl (fun h => h)) (.gd rfl (fun h => h)) (fun _ => ⟨by omega, by omega⟩)).to (y := .rp e2.ds) (by show AV.rp (g.es.getD y.toNat default).ds = _; rw [hf2]))
          apply Trace.pg [] rfl (.fieldAddr fl40_0 (.gd rfl (fun h => h)) rfl)
          first | apply Trace.pg [_] rfl (.loadLoc1D ty3 (.gd rfl (fun h => h)) rfl rfl) | apply Trace.pg [_] rfl (.loadLoc1 ty3 (.gd rfl (fun h => h)) rfl rfl) | apply Trace.pg [] rfl (.loadRp1 ty3 (.gd rfl (fun h => h)) rfl) | apply Trace.pg [_] rfl (.loadCol1 ty3 (.gd rfl (fun h => h)) rfl rfl rfl (fun _ => by omega))
          apply Trace.pg [] rfl (.fieldAddr fl40_1 (.plain rfl) rfl)
          first | apply Trace.pg [_] rfl (.loadLoc1D ty3 (.gd rfl (fun h => h)) rfl rfl) | apply Trace.pg [_] rfl (.loadLoc1 ty3 (.gd rfl (fun h => h)) rfl rfl) | apply Trace.pg [] rfl (.loadRp1 ty3 (.gd rfl (fun h => h)) rfl) | apply Trace.pg [_] rfl (.loadCol1 ty3 (.gd rfl (fun h => h)) rfl rfl rfl (fun _ => by omega))
          apply Trace.pg [] rfl (.cmp (.gd rfl (fun h => h)) (.gd rfl (fun h => h)) rfl)
          apply Trace.pu [] (.pick (.plain rfl) (.plain rfl) (.gd rfl (by simp)))
          exact .nil _
        · rfl
        · exact keepOK_of hk hn rfl
        refine WPA.cond rfl (fun hc5 => ?_) (fun hc5 => ?_)
        · have hne : ¬ e2.f = e.t := by
            have h9 : (!decide (e2.f = e.t)) = true := hc5
            simpa using h9
          have hM : g.cycleP l = (false, false) := cycleP_no hlt (cycAt_false fun h => by rw [hye, hxe] at h; exact hne h.2.2.1)
          apply WPA.seq
          apply WPA.region
          · apply Trace.pu [] (.assign (.plain rfl))
            apply Trace.pu [] (.assign (.plain rfl))
            exact .nil _
          · exact keepOK_of hk hn rfl
          apply WPA.ret
          refine ⟨.inr rfl, ⟨_, (.cons (.tmp rfl) (.cons (.tmp rfl) .nil)), ?_⟩, by simp [St.get]⟩
          rw [hM]; rfl
        · have heq : e2.f = e.t := by
            have h9 : (!decide (e2.f = e.t)) = false := hc5
            simpa using h9
          apply WPA.skip
          apply WPA.seq
          apply WPA.seq
          apply WPA.region
          · apply Trace.pu [] (.assign (.plain rfl))
            exact .nil _
          · exact keepOK_of hk hn rfl
          apply WPA.block
          refine WPA.loop (σ := Nat) (fun k => [(sl 1, .av (.d (intsD l))), (sl 2, .av (.loc 2 0)), (sl 6, .av (iv .i64 (g.sumTo l i))), (sl 7, .av (iv .i64 (i))), (sl 8, .av (.loc 8 0)), (sl 10, .av (iv .i64 (k))), (bk 2, .blk (.data g.ds)), (bk 8, .blk (.data e.ds))]) (fun k => k ≤ i ∧ ∀ j, j < k → (g.eAt (l.getD j 0)).f ≠ e.f) (fun k => i - k) 0
            (St.le_cons rfl (St.le_cons rfl (St.le_cons rfl (St.le_cons rfl (St.le_cons rfl (St.le_cons rfl (St.le_cons rfl (St.le_cons rfl (St.le_nil _))))))))) ⟨Nat.zero_le _, fun j h => by omega⟩ fun k hk2 => ?_
          apply WPA.seq
          apply WPA.seq
          apply WPA.region
          · apply Trace.pu [] (.move (.plain rfl))
            apply Trace.pu [] (.move (.plain rfl))
            apply Trace.pu [] (.cmp (.plain rfl) (.plain rfl) rfl)
            exact .nil _
          · exact keepOK_of hk hn rfl
          refine WPA.cond rfl (fun hc6 => ?_) (fun hc6 => ?_)
          · have hki : k < i := by simpa using hc6
            have hcat := (cycAt_iff.1 (hi.2 k hki)).1
            obtain ⟨z, hz⟩ : ∃ z, l.getD k 0 = z := ⟨_, rfl⟩
            have hz2 : l.getD ((k : Nat) : Int).toNat 0 = z := hz
            rw [hz] at hcat
            have hze : g.es.getD z.toNat default = g.eAt (l.getD k 0) := by rw [hz]
            obtain ⟨e3, he3'⟩ : ∃ e3, g.eAt (l.getD k 0) = e3 := ⟨_, rfl⟩
            rw [he3'] at hze
            apply WPA.skip
            apply WPA.seq
            apply WPA.block
            apply WPA.seq
            apply WPA.draw mixed
            · apply Trace.pu [] (.fieldAddr fl25_1 (.plain rfl) rfl)
              first | apply Trace.pu [_] (.loadLoc1D ty23 (.plain rfl) rfl rfl) | apply Trace.pu [_] (.loadLoc1 ty23 (.plain rfl) rfl rfl) | apply Trace.pu [] (.loadRp1 ty23 (.plain rfl) rfl) | apply Trace.pu [_] (.loadCol1 ty23 (.plain rfl) rfl rfl rfl (fun _ => by omega))
              apply Trace.pu [] (.move (.plain rfl))
              apply Trace.pu [] (.move (.plain rfl))
              first | apply Trace.pu [] (.indexRows el22 (.plain rfl) (.plain rfl) (fun _ => ⟨by omega, by omega⟩)) | apply Trace.pu [] (.indexOwn el22 (.plain rfl) (.plain rfl) (fun _ => ⟨by omega, by omega⟩)) | apply Trace.pu [] (.indexSl el22 (.plain rfl) (.plain rfl) (fun _ => ⟨by omega, by omega⟩))
              first | apply Trace.pu [_] (.loadLoc1D ty3 (.plain rfl) rfl rfl) | apply Trace.pu [_] (.loadLoc1 ty3 (.plain rfl) rfl rfl) | apply Trace.pu [] (.loadRp1 ty3 (.plain rfl) rfl) | apply Trace.pu [_] (.loadCol1 ty3 (.plain rfl) rfl rfl rfl (fun _ => by omega))
              apply Trace.pu [] ((Pure.indexRows el23 (.plain rfl) (.plain rfl) (fun _ => ⟨by omega, by omega⟩)).to (y := .rp e3.ds) (by show AV.rp (g.es.getD (l.getD k 0).toNat default).ds = _; rw [hz, hze]))
              apply Trace.pu [] (.fieldAddr fl40_0 (.plain rfl) rfl)
              first | apply Trace.pu [_] (.loadLoc1D ty3 (.plain rfl) rfl rfl) | apply Trace.pu [_] (.loadLoc1 ty3 (.plain rfl) rfl rfl) | apply Trace.pu [] (.loadRp1 ty3 (.plain rfl) rfl) | apply Trace.pu [_] (.loadCol1 ty3 (.plain rfl) rfl rfl rfl (fun _ => by omega))
              apply Trace.pu [] (.fieldAddr fl40_0 (.plain rfl) rfl)
              first | apply Trace.pu [_] (.loadLoc1D ty3 (.plain rfl) rfl rfl) | apply Trace.pu [_] (.loadLoc1 ty3 (.plain rfl) rfl rfl) | apply Trace.pu [] (.loadRp1 ty3 (.plain rfl) rfl) | apply Trace.pu [_] (.loadCol1 ty3 (.plain rfl) rfl rfl rfl (fun _ => by omega))
              apply Trace.pu [] (.cmp (.plain rfl) (.plain rfl) rfl)
              exact .nil _
            · rfl
            · exact keepOK_of hk hn rfl
            refine WPA.cond rfl (fun hc7 => ?_) (fun hc7 => ?_)
            · have hef : e3.f = e.f := of_decide_eq_true hc7
              have hM : g.cycleP l = (false, false) := cycleP_no hlt (cycAt_false fun h => h.2.2.2 k hki (by rw [he3', hxe]; exact hef))
              apply WPA.seq
              apply WPA.region
              · apply Trace.pu [] (.assign (.plain rfl))
                apply Trace.pu [] (.assign (.plain rfl))
                exact .nil _
              · exact keepOK_of hk hn rfl
              apply WPA.ret
              refine ⟨.inr rfl, ⟨_, (.cons (.tmp rfl) (.cons (.tmp rfl) .nil)), ?_⟩, by simp [St.get]⟩
              rw [hM]; rfl
            · have hef : ¬ e3.f = e.f := of_decide_eq_false hc7
              apply WPA.skip
              apply WPA.region
              · apply Trace.pu [] (.move (.plain rfl))
                apply Trace.pu [] (.arith (.plain rfl) (.plain rfl) rfl (fun _ => bd64 (by omega)))
                apply Trace.pu [] (.assign (.plain rfl))
                exact .nil _
              · exact keepOK_of hk hn rfl
              exact ⟨k + 1, ⟨by omega, fun j hj => by
                by_cases hjk : j = k
                · rw [hjk, he3']; exact hef
                · exact hk2.2 j (by omega)⟩, by omega, St.le_cons rfl (St.le_cons rfl (St.le_cons rfl (St.le_cons rfl (St.le_cons rfl (St.le_cons (slI (by omega)) (St.le_cons rfl (St.le_cons rfl (St.le_nil _))))))))⟩
          · have hkn : k = i := by
              have : ¬ ((k : Int) < i) := by simpa using hc6
              omega
            subst hkn
            have hcat : g.cycAt l k = true := cycAt_iff.2 ⟨by rw [hx]; exact ⟨hx0, hxm⟩, by rw [hy]; exact hym, by rw [hye, hxe]; exact heq, fun j hj => by rw [hxe]; exact hk2.2 j hj⟩
            have hsb := sumTo_bd hok (l := l.take k) (fun j hj => by
              have hjk : j < k := by rw [List.length_take] at hj; omega
              have := (cycAt_iff.1 (hi.2 j hjk)).1.2
              have e4 : (l.take k).getD j 0 = l.getD j 0 := by
                rw [getD_lt _ _ hj, getD_lt _ _ (by omega)]; simp
              rw [e4]; exact this) k (by rw [List.length_take]; omega)
            have hsk : g.sumTo (l.take k) k = g.sumTo l k := by unfold Gr.sumTo; rw [List.take_take, Nat.min_self]
            rw [hsk] at hsb
            have hss := sumTo_succ g (l := l) (i := k) hlt
            rw [hxe] at hss
            have hwt : g.wt e = e.d - g.lat.getD e.f.toNat 0 := rfl
            apply WPA.exit
            apply WPA.draw mixed
            · apply Trace.pu [] (.move (.plain rfl))
              apply Trace.pu [] (.fieldAddr fl40_3 (.plain rfl) rfl)
              first | apply Trace.pu [_] (.loadLoc1D ty3 (.plain rfl) rfl rfl) | apply Trace.pu [_] (.loadLoc1 ty3 (.plain rfl) rfl rfl) | apply Trace.pu [] (.loadRp1 ty3 (.plain rfl) rfl) | apply Trace.pu [_] (.loadCol1 ty3 (.plain rfl) rfl rfl rfl (fun _ => by omega))
              apply Trace.pu [] (.arith (.plain rfl) (.plain rfl) rfl (fun _ => bd64 (by omega)))
              apply Trace.pu [] (.fieldAddr fl25_0 (.plain rfl) rfl)
              first | apply Trace.pu [_] (.loadLoc1D ty22 (.plain rfl) rfl rfl) | apply Trace.pu [_] (.loadLoc1 ty22 (.plain rfl) rfl rfl) | apply Trace.pu [] (.loadRp1 ty22 (.plain rfl) rfl) | apply Trace.pu [_] (.loadCol1 ty22 (.plain rfl) rfl rfl rfl (fun _ => by omega))
              apply Trace.pu [] (.fieldAddr fl40_0 (.plain rfl) rfl)
              first | apply Trace.pu [_] (.loadLoc1D ty3 (.plain rfl) rfl rfl) | apply Trace.pu [_] (.loadLoc1 ty3 (.plain rfl) rfl rfl) | apply Trace.pu [] (.loadRp1 ty3 (.plain rfl) rfl) | apply Trace.pu [_] (.loadCol1 ty3 (.plain rfl) rfl rfl rfl (fun _ => by omega))
              first | apply Trace.pu [] (.indexRows el22 (.plain rfl) (.plain rfl) (fun _ => ⟨by omega, by omega⟩)) | apply Trace.pu [] (.indexOwn el22 (.plain rfl) (.plain rfl) (fun _ => ⟨by omega, by omega⟩)) | apply Trace.pu [] (.indexSl el22 (.plain rfl) (.plain rfl) (fun _ => ⟨by omega, by omega⟩))
              first | apply Trace.pu [_] (.loadLoc1D ty3 (.plain rfl) rfl rfl) | apply Trace.pu [_] (.loadLoc1 ty3 (.plain rfl) rfl rfl) | apply Trace.pu [] (.loadRp1 ty3 (.plain rfl) rfl) | apply Trace.pu [_] (.loadCol1 ty3 (.plain rfl) rfl rfl rfl (fun _ => by omega))
              apply Trace.pu [] (.arith (.plain rfl) (.plain rfl) rfl (fun _ => bd64 (by omega)))
              apply Trace.pu [] (.assign (.plain rfl))
              exact .nil _
            · rfl
            · exact keepOK_of hk hn rfl
            apply WPA.region
            · apply Trace.pu [] (.move (.plain rfl))
              apply Trace.pu [] (.arith (.plain rfl) (.plain rfl) rfl (fun _ => bd64 (by omega)))
              apply Trace.pu [] (.assign (.plain rfl))
              exact .nil _
            · exact keepOK_of hk hn rfl
            exact ⟨k + 1, ⟨by omega, fun j hj => by
              by_cases hjk : j = k
              · rw [hjk]; exact hcat
              · exact hi.2 j (by omega)⟩, by omega, St.le_cons rfl (St.le_cons rfl (St.le_cons (slI (by omega)) (St.le_cons (slI (by omega)) (St.le_cons rfl (St.le_nil _)))))⟩
  · have hil : i = l.length := by
      have : ¬ ((i : Int) < l.length) := by simpa using hc1
      omega
    subst hil
    have hM := cycleP_yes hi.2
    apply WPA.exit
    apply WPA.seq
    apply WPA.region
    · apply Trace.pu [] (.move (.plain rfl))
      apply Trace.pu [] (.len rfl Try.underlying22 (.plain rfl) rfl)
      apply Trace.pu [] (.cmp (.plain rfl) (.plain rfl) rfl)
      apply Trace.pu [] (.move (.plain rfl))
      apply Trace.pu [] (.len rfl Try.underlying22 (.plain rfl) rfl)
      apply Trace.pu [] (.cmp (.plain rfl) (.plain rfl) rfl)
      apply Trace.pu [] (.move (.plain rfl))
      apply Trace.pg [] rfl (.move (.plain rfl))
      apply Trace.pg [] rfl (.cmp (.gd rfl (fun h => h)) (.plain rfl) rfl)
      apply Trace.pu [] (.pick (.plain rfl) (.gd rfl (by simp)) (.plain rfl))
      apply Trace.pu [] (.assign (.plain rfl))
      apply Trace.pu [] (.assign (.plain rfl))
      exact .nil _
    · exact keepOK_of hk hn rfl
    apply WPA.ret
    refine ⟨.inr rfl, ⟨_, (.cons (.tmp rfl) (.cons (.tmp rfl) .nil)), ?_⟩, by simp [St.get]⟩
    rw [hM]; rfl

theorem cyN {g : Gr} (hok : g.OK) {l : List Int} (hl : l.length ≤ 1048576) {a b : Bool} (h : g.cycleP l = (a, b)) : FnSpec Try.prog 19 [g.av, .d (intsD l)] [] (.tup ([.v (.bool a), .v (.bool b)].map .d)) [] [] := by
  have := spec19 hok l hl
  rw [h] at this
  exact this
theorem formed_three (g : Gr) : g.formed = 0 ∨ g.formed = 2 ∨ g.formed = 210 := by
  unfold Gr.formed
  split
  · exact .inr (.inl rfl)
  · split
    · exact .inl rfl
    · exact .inr (.inr rfl)
/-- soundpost/soundpostlaw21.GraphLoop -/
theorem spec5 (g : Gr) (hz : g.Sz) : FnSpec Try.prog 5 [g.av] [] (bv true) [] [] := by
  have hn1 := hz.n
  have hn2 := hz.m
  refine fnSpec_of (rs := [.tmp 2]) Try.func5 rfl rfl (Nat.le_of_ble_eq_true rfl) (by simp [St.get]) fun E hk hn => ?_
  apply WPA.seq
  apply WPA.region
  · first | apply Trace.boxD 1 [] (.plain rfl) rfl rfl | apply Trace.box 1 [] (.plain rfl) rfl rfl rfl
    apply Trace.pu [] (.assign (.plain rfl))
    exact .nil _
  · exact keepOK_of hk hn rfl
  apply WPA.seq
  apply WPA.seq
  apply WPA.region
  · apply Trace.cu (callArgs0 .nil) spec10 en10
    apply Trace.pu [] (.not (.plain rfl))
    exact .nil _
  · exact keepOK_of hk hn rfl
  refine WPA.cond rfl (fun hc1 => ?_) (fun hc1 => ?_)
  · cases hc1
  · apply WPA.skip
    apply WPA.seq
    apply WPA.seq
    apply WPA.region
    · apply Trace.pu [] (.fieldAddr fl25_0 (.plain rfl) rfl)
      first | apply Trace.pu [_] (.loadLoc1D ty22 (.plain rfl) rfl rfl) | apply Trace.pu [_] (.loadLoc1 ty22 (.plain rfl) rfl rfl) | apply Trace.pu [] (.loadRp1 ty22 (.plain rfl) rfl) | apply Trace.pu [_] (.loadCol1 ty22 (.plain rfl) rfl rfl rfl (fun _ => by omega))
      apply Trace.pu [] (.len rfl Try.underlying22 (.plain rfl) rfl)
      apply Trace.pu [] (.cmp (.plain rfl) (.plain rfl) rfl)
      apply Trace.pu [] (.move (.plain rfl))
      apply Trace.pg [] rfl (.fieldAddr fl25_1 (.plain rfl) rfl)
      first | apply Trace.pg [_] rfl (.loadLoc1D ty23 (.gd rfl (fun h => h)) rfl rfl) | apply Trace.pg [_] rfl (.loadLoc1 ty23 (.gd rfl (fun h => h)) rfl rfl) | apply Trace.pg [] rfl (.loadRp1 ty23 (.gd rfl (fun h => h)) rfl) | apply Trace.pg [_] rfl (.loadCol1 ty23 (.gd rfl (fun h => h)) rfl rfl rfl (fun _ => by omega))
      apply Trace.pg [] rfl (.len rfl Try.underlying23 (.gd rfl (fun h => h)) rfl)
      apply Trace.pg [] rfl (.cmp (.gd rfl (fun h => h)) (.plain rfl) rfl)
      apply Trace.pu [] (.pick (.plain rfl) (.plain rfl) (.gd rfl (by simp)))
      exact .nil _
    · exact keepOK_of hk hn rfl
    refine WPA.cond rfl (fun hc2 => ?_) (fun hc2 => ?_)
    · apply WPA.seq
      apply WPA.region
      · apply Trace.pu [] (.assign (.plain rfl))
        exact .nil _
      · exact keepOK_of hk hn rfl
      apply WPA.ret
      refine ⟨.inr rfl, ⟨_, (.cons (.tmp rfl) .nil), ?_⟩, by simp [St.get]⟩
      rfl
    · apply WPA.skip
      apply WPA.seq
      apply WPA.region
      · first | apply Trace.pu [_] (.loadAllD ty25 (.plain rfl) rfl (by simp)) | apply Trace.pu [_] (.loadLocD ty25 (.plain rfl) rfl (fun _ => by simp)) | apply Trace.pu [_] (.loadLoc ty25 (.plain rfl) rfl (fun _ => Nat.le_of_ble_eq_true rfl)) | apply Trace.pu [] (.loadRp ty25 (.plain rfl) (fun _ => by decide)) | apply Trace.pu [] (.loadRp ty25 (.plain rfl) (fun _ => Nat.le_of_ble_eq_true rfl)) | apply Trace.pu [_] (.loadCol ty25 (.plain rfl) rfl rfl (fun _ => by decide) (fun _ => by omega)) | apply Trace.pu [_] (.loadArr ty25 (.plain rfl) rfl)
        apply Trace.ct (callArgs0 (.cons (.plain rfl) .nil)) (loN hz (l := g.cyc) (b := g.looped) (c := g.formed) rfl) en17
        apply Trace.pu [] (.move (.plain rfl))
        apply Trace.pu [] (.extract (.plain rfl) rfl)
        apply Trace.pu [] (.extract (.plain rfl) rfl)
        apply Trace.pu [] (.extract (.plain rfl) rfl)
        apply Trace.pu [] (.assign (.plain rfl))
        apply Trace.pu [] (.assign (.plain rfl))
        apply Trace.pu [] (.assign (.plain rfl))
        exact .nil _
      · exact keepOK_of hk hn rfl
      apply WPA.seq
      apply WPA.region
      · first | apply Trace.pu [_] (.loadAllD ty25 (.plain rfl) rfl (by simp)) | apply Trace.pu [_] (.loadLocD ty25 (.plain rfl) rfl (fun _ => by simp)) | apply Trace.pu [_] (.loadLoc ty25 (.plain rfl) rfl (fun _ => Nat.le_of_ble_eq_true rfl)) | apply Trace.pu [] (.loadRp ty25 (.plain rfl) (fun _ => by decide)) | apply Trace.pu [] (.loadRp ty25 (.plain rfl) (fun _ => Nat.le_of_ble_eq_true rfl)) | apply Trace.pu [_] (.loadCol ty25 (.plain rfl) rfl rfl (fun _ => by decide) (fun _ => by omega)) | apply Trace.pu [_] (.loadArr ty25 (.plain rfl) rfl)
        apply Trace.cu (callArgs0 (.cons (.plain rfl) .nil)) (chN hz (c := g.check) rfl) en12
        apply Trace.pu [] (.assign (.plain rfl))
        exact .nil _
      · exact keepOK_of hk hn rfl
      apply WPA.seq
      apply WPA.seq
      apply WPA.region
      · apply Trace.pu [] (.move (.plain rfl))
        apply Trace.pu [] (.cmp (.plain rfl) (.plain rfl) rfl)
        exact .nil _
      · exact keepOK_of hk hn rfl
      refine WPA.cond rfl (fun hc3 => ?_) (fun hc3 => ?_)
      · have hE : g.formed ≠ 0 := by
          have h9 : (!decide (g.formed = 0)) = true := hc3
          simpa using h9
        have hlp : g.looped = false := by simp [Gr.looped, hE]
        have hcy : g.cyc = [] := if_neg (by rw [hlp]; decide)
        have hck : g.check = g.formed := if_neg (by rw [hlp]; decide)
        have hno : ¬ g.formed = 211 := by rcases formed_three g with h | h | h <;> rw [h] <;> decide
        rw [hlp, hcy, hck]
        apply WPA.seq
        apply WPA.region
        · apply Trace.pu [] (.move (.plain rfl))
          apply Trace.pu [] (.not (.plain rfl))
          apply Trace.pu [] (.move (.plain rfl))
          apply Trace.pg [] rfl (.move (.plain rfl))
          apply Trace.pg [] rfl (.len rfl Try.underlying22 (.gd rfl (fun h => h)) rfl)
          apply Trace.pg [] rfl (.cmp (.gd rfl (fun h => h)) (.plain rfl) rfl)
          apply Trace.pu [] (.pick (.plain rfl) (.gd rfl (by simp)) (.plain rfl))
          apply Trace.pu [] (.move (.plain rfl))
          apply Trace.pg [] rfl (.move (.plain rfl))
          apply Trace.pg [] rfl (.move (.plain rfl))
          apply Trace.pg [] rfl (.cmp (.gd rfl (fun h => h)) (.gd rfl (fun h => h)) rfl)
          apply Trace.pu [] (.pick (.plain rfl) (.gd rfl (by simp)) (.plain rfl))
          apply Trace.pu [] (.move (.plain rfl))
          apply Trace.pg [] rfl (.move (.plain rfl))
          apply Trace.pg [] rfl (.cmp (.gd rfl (fun h => h)) (.plain rfl) rfl)
          apply Trace.pu [] (.pick (.plain rfl) (.gd rfl (by simp)) (.plain rfl))
          apply Trace.pu [] (.assign (.plain rfl))
          exact .nil _
        · exact keepOK_of hk hn rfl
        apply WPA.ret
        refine ⟨.inr rfl, ⟨_, (.cons (.tmp rfl) .nil), ?_⟩, by simp [St.get]⟩
        exact congrArg bv (by rw [decide_eq_true (rfl : g.formed = g.formed), decide_eq_false hno]; rfl)
      · have hE : g.formed = 0 := by
          have h9 : (!decide (g.formed = 0)) = false := hc3
          simpa using h9
        have hok := g.ok_of hE
        apply WPA.skip
        apply WPA.seq
        apply WPA.seq
        apply WPA.region
        · apply Trace.pu [] (.move (.plain rfl))
          apply Trace.pu [] (.not (.plain rfl))
          exact .nil _
        · exact keepOK_of hk hn rfl
        refine WPA.cond rfl (fun hc4 => ?_) (fun hc4 => ?_)
        · have hlp : g.looped = false := by
            have h9 : (!g.looped) = true := hc4
            revert h9; cases g.looped <;> simp
          have hcy : g.cyc = [] := if_neg (by rw [hlp]; decide)
          have hck : g.check = 0 := by unfold Gr.check; rw [if_neg (by rw [hlp]; decide), hE]
          rw [hcy, hck]
          apply WPA.seq
          apply WPA.region
          · apply Trace.pu [] (.move (.plain rfl))
            apply Trace.pu [] (.len rfl Try.underlying22 (.plain rfl) rfl)
            apply Trace.pu [] (.cmp (.plain rfl) (.plain rfl) rfl)
            apply Trace.pu [] (.move (.plain rfl))
            apply Trace.pg [] rfl (.move (.plain rfl))
            apply Trace.pg [] rfl (.cmp (.gd rfl (fun h => h)) (.plain rfl) rfl)
            apply Trace.pu [] (.pick (.plain rfl) (.gd rfl (by simp)) (.plain rfl))
            apply Trace.pu [] (.assign (.plain rfl))
            exact .nil _
          · exact keepOK_of hk hn rfl
          apply WPA.ret
          refine ⟨.inr rfl, ⟨_, (.cons (.tmp rfl) .nil), ?_⟩, by simp [St.get]⟩
          rfl
        · have hlp : g.looped = true := by
            have h9 : (!g.looped) = false := hc4
            revert h9; cases g.looped <;> simp
          have hck : g.check = 211 := if_pos hlp
          have hsh : g.short = true := by unfold Gr.looped at hlp; simp only [Bool.and_eq_true] at hlp; exact hlp.2
          obtain ⟨hcc, hcl⟩ := cyc_cycle hok hsh hlp
          have hn4 := hok.n
          rw [hck]
          apply WPA.skip
          apply WPA.seq
          apply WPA.seq
          apply WPA.region
          · first | apply Trace.pu [_] (.loadAllD ty25 (.plain rfl) rfl (by simp)) | apply Trace.pu [_] (.loadLocD ty25 (.plain rfl) rfl (fun _ => by simp)) | apply Trace.pu [_] (.loadLoc ty25 (.plain rfl) rfl (fun _ => Nat.le_of_ble_eq_true rfl)) | apply Trace.pu [] (.loadRp ty25 (.plain rfl) (fun _ => by decide)) | apply Trace.pu [] (.loadRp ty25 (.plain rfl) (fun _ => Nat.le_of_ble_eq_true rfl)) | apply Trace.pu [_] (.loadCol ty25 (.plain rfl) rfl rfl (fun _ => by decide) (fun _ => by omega)) | apply Trace.pu [_] (.loadArr ty25 (.plain rfl) rfl)
            apply Trace.cu (callArgs0 (.cons (.plain rfl) .nil)) ((spec18 g hz).resLe (res' := iv .i64 0) (by rw [hE]; exact fun _ _ _ h => h)) en18
            apply Trace.pu [] (.cmp (.plain rfl) (.plain rfl) rfl)
            exact .nil _
          · exact keepOK_of hk hn rfl
          refine WPA.cond rfl (fun hc5 => ?_) (fun hc5 => ?_)
          · cases hc5
          · apply WPA.skip
            apply WPA.seq
            apply WPA.region
            · first | apply Trace.pu [_] (.loadAllD ty25 (.plain rfl) rfl (by simp)) | apply Trace.pu [_] (.loadLocD ty25 (.plain rfl) rfl (fun _ => by simp)) | apply Trace.pu [_] (.loadLoc ty25 (.plain rfl) rfl (fun _ => Nat.le_of_ble_eq_true rfl)) | apply Trace.pu [] (.loadRp ty25 (.plain rfl) (fun _ => by decide)) | apply Trace.pu [] (.loadRp ty25 (.plain rfl) (fun _ => Nat.le_of_ble_eq_true rfl)) | apply Trace.pu [_] (.loadCol ty25 (.plain rfl) rfl rfl (fun _ => by decide) (fun _ => by omega)) | apply Trace.pu [_] (.loadArr ty25 (.plain rfl) rfl)
              apply Trace.pu [] (.move (.plain rfl))
              apply Trace.ct (callArgs0 (.cons (.plain rfl) (.cons (.plain rfl) .nil))) (cyN hok (by omega) hcc) en19
              apply Trace.pu [] (.move (.plain rfl))
              apply Trace.pu [] (.extract (.plain rfl) rfl)
              apply Trace.pu [] (.extract (.plain rfl) rfl)
              apply Trace.pu [] (.assign (.plain rfl))
              apply Trace.pu [] (.assign (.plain rfl))
              exact .nil _
            · exact keepOK_of hk hn rfl
            apply WPA.seq
            apply WPA.region
            · apply Trace.pu [] (.move (.plain rfl))
              apply Trace.pu [] (.cmp (.plain rfl) (.plain rfl) rfl)
              apply Trace.pu [] (.move (.plain rfl))
              apply Trace.pg [] rfl (.move (.plain rfl))
              apply Trace.pu [] (.pick (.plain rfl) (.gd rfl (by simp)) (.plain rfl))
              apply Trace.pu [] (.move (.plain rfl))
              apply Trace.pg [] rfl (.move (.plain rfl))
              apply Trace.pu [] (.pick (.plain rfl) (.gd rfl (by simp)) (.plain rfl))
              apply Trace.pu [] (.assign (.plain rfl))
              exact .nil _
            · exact keepOK_of hk hn rfl
            apply WPA.ret
            refine ⟨.inr rfl, ⟨_, (.cons (.tmp rfl) .nil), ?_⟩, by simp [St.get]⟩
            rfl

end Go.Proofs.Ytcnikeonaklkoaa

