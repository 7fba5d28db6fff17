import Derived.Test.YtcidkahhfdcddaaPkD
/- Memory of positions that are changed later; TopPlan's comparison. -/
namespace Go.Proofs.Ytcidkahhfdcddaa
open Go
set_option linter.unusedVariables false
set_option linter.unusedSimpArgs false
set_option maxRecDepth 10000
set_option maxHeartbeats 1000000

theorem Pure.eqNilOwn {P : Program} {S : St} {x y : Operand} {t t' ty e : TypeId} {d : Option Tmp} {pos : String} {af : Array Edge} {gd : Option (Nat × Bool)} {c : Bool} {l len : Nat} (hl : 0 < len) (hu : P.underlying t = some (.slice e)) (e1 : Ev S c x (.own l len)) (e2 : Ev S c y nilS) : Pure P S [] ⟨d, .binOp .eql t x y t', ty, pos, af, gd⟩ c (bv false) := by
  refine ⟨(fun _ h => nomatch h), fun E V M a w h hc => ?_⟩
  have h1 := h.opd x (by simp [Op.operands]) _ e1
  have h2 := h.val (by simp [Op.operands]) e2
  generalize a.eval = ρ at *
  refine ⟨_, ?_, .d _ _ (.v _)⟩
  generalize hv : ρ x = v at h1
  cases h1 with
  | ownNil _ hk => omega
  | own _ _ cap hk hc =>
    simp only [execOp, hv, h2, eqGuard]
    simp [Sem.run_bind, Sem.run_pure, Result.andThen, run_eqNil hu]
/-- slices.IndexFunc[[]int,int] -/
theorem ixO {p : Int → Bool} {F : FuncId} (hF : ∀ x, FnSpec Try.prog F [iv .i64 x] [] (bv (p x)) [] []) (he : enterOK Try.prog F = true) (l : List Int) {n : Nat} (hln : l.length = n) (hl : l.length ≤ 4611686018427387904) : FnSpec Try.prog 52 [.own 0 n, .fn F []] [(bk 0, .blk (.app 1 n [.ints .i64 l]))] (iv .i64 (idxF p l)) [(bk 0, .blk (.app 1 n [.ints .i64 l]))] [0] := by
  refine fnSpec_of (rs := [.tmp 4]) Try.func52 rfl rfl (Nat.le_of_ble_eq_true rfl) (odd_of rfl) fun E hk hn => ?_
  apply WPA.seq
  apply WPA.region
  · apply Trace.pu [] (.assign (.plain rfl))
    exact .nil _
  · exact keepOK_of hk hn rfl
  apply WPA.seq
  apply WPA.seq
  apply WPA.region
  · apply Trace.pu [] (.move (.plain rfl))
    apply Trace.pu [] (.len rfl Try.underlying22 (.plain rfl) rfl)
    apply Trace.pu [] (.move (.plain rfl))
    exact .nil _
  · exact keepOK_of hk hn rfl
  apply WPA.block
  refine WPA.loop (σ := Nat) (fun i => [(sl 0, .av (.own 0 n)), (sl 1, .av (.fn F [])), (sl 7, .av (iv .i64 (n))), (sl 8, .av (iv .i64 (i))), (bk 0, .blk (.app 1 n [.ints .i64 l]))]) (fun i => i ≤ n ∧ ∀ j, j < i → p (l.getD j 0) = false) (fun i => n - i) 0
    (St.le_cons rfl (St.le_cons rfl (St.le_cons rfl (St.le_cons rfl (St.le_cons rfl (St.le_nil _)))))) ⟨Nat.zero_le _, fun j h => by omega⟩ fun i hi => ?_
  apply WPA.seq
  apply WPA.region
  · apply Trace.pu [] (.cmp (.plain rfl) (.plain rfl) rfl)
    exact .nil _
  · exact keepOK_of hk hn rfl
  apply WPA.seq
  refine WPA.cond rfl (fun hc1 => ?_) (fun hc1 => ?_)
  · have hlt : i < n := by simpa using hc1
    apply WPA.skip
    apply WPA.seq
    apply WPA.block
    apply WPA.seq
    apply WPA.region
    · apply Trace.pu [] (.move (.plain rfl))
      apply Trace.pu [] (.assign (.plain rfl))
      exact .nil _
    · exact keepOK_of hk hn rfl
    apply WPA.seq
    apply WPA.region
    · apply Trace.pu [] (.move (.plain rfl))
      apply Trace.pu [] (.move (.plain rfl))
      apply Trace.pu [] (.move (.plain rfl))
      first | apply Trace.pu [] (.indexRows el22 (.plain rfl) (.plain rfl) (fun _ => ⟨by omega, by omega⟩)) | apply Trace.pu [] (.indexOwn el22 (.plain rfl) (.plain rfl) (fun _ => ⟨by omega, by omega⟩)) | apply Trace.pu [] (.indexSl el22 (.plain rfl) (.plain rfl) (fun _ => ⟨by omega, by omega⟩))
      first | apply Trace.pu [_] (.loadLoc1D ty3 (.plain rfl) rfl rfl) | apply Trace.pu [_] (.loadLoc1 ty3 (.plain rfl) rfl rfl) | apply Trace.pu [] (.loadRp1 ty3 (.plain rfl) rfl) | apply Trace.pu [_] (.loadCol1 ty3 (.plain rfl) rfl rfl rfl (fun _ => by omega))
      apply Trace.cu (callArgs (.plain rfl) (.cons (.plain rfl) .nil)) (hF _) he
      exact .nil _
    · exact keepOK_of hk hn rfl
    refine WPA.cond rfl (fun hc2 => ?_) (fun hc2 => ?_)
    · apply WPA.seq
      apply WPA.region
      · apply Trace.pu [] (.move (.plain rfl))
        apply Trace.pu [] (.assign (.plain rfl))
        exact .nil _
      · exact keepOK_of hk hn rfl
      apply WPA.ret
      refine ⟨.inr rfl, ⟨_, (.cons (.tmp rfl) .nil), ?_⟩, blks_of (.cons rfl .nil)⟩
      rw [idxF_hit (by omega) hc2 hi.2]; rfl
    · apply WPA.skip
      apply WPA.region
      · apply Trace.pu [] (.arith (.plain rfl) (.plain rfl) rfl (fun _ => bd64 (by omega)))
        apply Trace.pu [] (.move (.plain rfl))
        exact .nil _
      · exact keepOK_of hk hn rfl
      exact ⟨i + 1, ⟨by omega, fun j h => by
        by_cases hj : j = i
        · rw [hj]; exact hc2
        · exact hi.2 j (by omega)⟩, by omega, St.le_cons rfl (St.le_cons rfl (St.le_cons rfl (St.le_cons (slI (by omega)) (St.le_cons rfl (St.le_nil _)))))⟩
  · apply WPA.exit
    apply WPA.seq
    apply WPA.region
    · apply Trace.pu [] (.assign (.plain rfl))
      exact .nil _
    · exact keepOK_of hk hn rfl
    apply WPA.ret
    refine ⟨.inr rfl, ⟨_, (.cons (.tmp rfl) .nil), ?_⟩, blks_of (.cons rfl .nil)⟩
    rw [idxF_miss fun j hj => hi.2 j (by
      have : ¬ ((i : Int) < n) := by simpa using hc1
      omega)]
    rfl

/-- slices.ContainsFunc[[]int,int] -/
theorem coO {p : Int → Bool} {F : FuncId} (hF : ∀ x, FnSpec Try.prog F [iv .i64 x] [] (bv (p x)) [] []) (he : enterOK Try.prog F = true) (l : List Int) {n : Nat} (hln : l.length = n) (hl : l.length ≤ 4611686018427387904) : FnSpec Try.prog 36 [.own 0 n, .fn F []] [(bk 0, .blk (.app 1 n [.ints .i64 l]))] (bv (l.any p)) [(bk 0, .blk (.app 1 n [.ints .i64 l]))] [0] := by
  refine fnSpec_of (rs := [.tmp 4]) Try.func36 rfl rfl (Nat.le_of_ble_eq_true rfl) (odd_of rfl) fun E hk hn => ?_
  apply WPA.seq
  apply WPA.region
  · apply Trace.pu [] (.assign (.plain rfl))
    exact .nil _
  · exact keepOK_of hk hn rfl
  apply WPA.seq
  apply WPA.region
  · apply Trace.pu [] (.move (.plain rfl))
    apply Trace.pu [] (.move (.plain rfl))
    apply Trace.cb [] [bk 0] (callArgs0 (.cons (.plain rfl) (.cons (.plain rfl) .nil))) (ixO hF he l hln hl) en52 (.cons rfl .nil) rfl rfl
    apply Trace.pu [] (.cmp (.plain rfl) (.plain rfl) rfl)
    apply Trace.pu [] (.assign (.plain rfl))
    exact .nil _
  · exact keepOK_of hk hn rfl
  apply WPA.ret
  refine ⟨.inr rfl, ⟨_, (.cons (.tmp rfl) .nil), ?_⟩, blks_of (.cons rfl .nil)⟩
  rw [← idxF_ge]; rfl

/-- slices.Clone[[]int,int] -/
theorem clO (l : List Int) {n : Nat} (hln : l.length = n) (h0 : 0 < n) (hl : l.length ≤ 17592186044416) : FnSpec Try.prog 38 [.own 0 n] [(bk 0, .blk (.app 1 n [.ints .i64 l]))] (.d (intsD l)) [(bk 0, .blk (.app 1 n [.ints .i64 l]))] [0] := by
  refine fnSpec_of (rs := [.tmp 2]) Try.func38 rfl rfl (Nat.le_of_ble_eq_true rfl) (odd_of rfl) fun E hk hn => ?_
  apply WPA.seq
  apply WPA.region
  · apply Trace.pu [] (.assign (.plain rfl))
    exact .nil _
  · exact keepOK_of hk hn rfl
  apply WPA.seq
  apply WPA.seq
  apply WPA.region
  · apply Trace.pu [] (.move (.plain rfl))
    apply Trace.pu [] (Pure.eqNilOwn h0 Try.underlying22 (.plain rfl) (.plain rfl))
    exact .nil _
  · exact keepOK_of hk hn rfl
  refine WPA.cond rfl (fun hc1 => ?_) (fun hc1 => ?_)
  · cases hc1
  · apply WPA.skip
    apply WPA.seq
    apply WPA.region
    · apply Trace.buildSlice 5 [] so22 zo3 rfl (by decide) (by decide) (.nil _ _) rfl rfl rfl
      apply Trace.pu [] (.move (.plain rfl))
      apply Trace.append 7 [bk 5, sl 5] ap22 kd22 (by decide) (.own (.plain rfl) rfl) (.own (.plain rfl) rfl) (Col.ones rfl) (labs_ok rfl) (by omega) (by omega) rfl rfl
      apply Trace.pu [] (.assign (.plain rfl))
      exact .nil _
    · exact keepOK_of hk hn rfl
    refine WPA.ghost (Ghost.dsInts (l := 7) (k := .i64) (xs := l) rfl (by rfl)) ?_
    refine WPA.ghost (Ghost.freezeAs (t := 2) (l := 7) (g := fun k => [Col.at (.ints .i64 l) k]) (by rfl) rfl (fun k hk => rfl)) ?_
    apply WPA.ret
    refine ⟨.inr rfl, ⟨_, (.cons (.tmp rfl) .nil), ?_⟩, blks_of (.cons rfl .nil)⟩
    rw [show (intsD l) = rowsD 1 (0 + n) [.ints .i64 l] by rw [intsD, hln, show 0 + n = n by omega]]
    rfl

/-- soundpost/plan.Memory -/
theorem meO (g : Gr) (hz : g.Sz) (hC : g.check = 0) (l : List Int) {n : Nat} (hln : l.length = n) (hl : n = g.lat.length) (h0 : 0 < n) : FnSpec Try.prog 18 [g.av, .own 0 n] [(bk 0, .blk (.app 1 n [.ints .i64 l]))] (.tup ([(g.memory l).1.d, .v (.int .i64 (g.memory l).2)].map .d)) [(bk 0, .blk (.app 1 n [.ints .i64 l]))] [0] := by
  have hn1 := hz.n
  have hn2 := hz.m
  have hok := g.ok_of (check_formed hC)
  have hnn := hok.n
  refine fnSpec_of (rs := [.cell 4 28, .tmp 5]) Try.func18 rfl rfl (Nat.le_of_ble_eq_true rfl) (odd_of rfl) fun E hk hn => ?_
  apply WPA.seq
  apply WPA.region
  · first | apply Trace.boxD 2 [] (.plain rfl) rfl rfl | apply Trace.box 2 [] (.plain rfl) rfl rfl rfl
    apply Trace.alloc 4 [] (.data _) zo28 (cellsAs_data _) rfl
    apply Trace.pu [] (.assign (.plain rfl))
    exact .nil _
  · exact keepOK_of hk hn rfl
  apply WPA.seq
  apply WPA.seq
  apply WPA.region
  · first | apply Trace.pu [_] (.loadAllD ty25 (.plain rfl) rfl (by simp)) | apply Trace.pu [_] (.loadLocD ty25 (.plain rfl) rfl (fun _ => by simp)) | apply Trace.pu [_] (.loadLoc ty25 (.plain rfl) rfl (fun _ => Nat.le_of_ble_eq_true rfl)) | apply Trace.pu [] (.loadRp ty25 (.plain rfl) (fun _ => by decide)) | apply Trace.pu [] (.loadRp ty25 (.plain rfl) (fun _ => Nat.le_of_ble_eq_true rfl)) | apply Trace.pu [_] (.loadCol ty25 (.plain rfl) rfl rfl (fun _ => by decide) (fun _ => by omega)) | apply Trace.pu [_] (.loadArr ty25 (.plain rfl) rfl)
    apply Trace.cu (callArgs0 (.cons (.plain rfl) .nil)) (spec26 g hz) en26
    apply Trace.pu [] (.assign (.plain rfl))
    exact .nil _
  · exact keepOK_of hk hn rfl
  apply WPA.seq
  apply WPA.region
  · apply Trace.pu [] (.move (.plain rfl))
    apply Trace.pu [] (.cmp (.plain rfl) (.plain rfl) rfl)
    exact .nil _
  · exact keepOK_of hk hn rfl
  refine WPA.cond rfl (fun hc1 => ?_) (fun hc1 => ?_)
  · exfalso
    have : g.check ≠ 0 := by simpa using hc1
    exact this hC
  · apply WPA.skip
    apply WPA.seq
    apply WPA.seq
    apply WPA.region
    · apply Trace.pu [] (.move (.plain rfl))
      apply Trace.pu [] (.len rfl Try.underlying22 (.plain rfl) rfl)
      apply Trace.pu [] (.fieldAddr fl25_0 (.plain rfl) rfl)
      first | apply Trace.pu [_] (.loadLoc1D ty22 (.plain rfl) rfl rfl) | apply Trace.pu [_] (.loadLoc1 ty22 (.plain rfl) rfl rfl) | apply Trace.pu [] (.loadRp1 ty22 (.plain rfl) rfl) | apply Trace.pu [_] (.loadCol1 ty22 (.plain rfl) rfl rfl rfl (fun _ => by omega))
      apply Trace.pu [] (.len rfl Try.underlying22 (.plain rfl) rfl)
      apply Trace.pu [] ((Pure.cmp (.plain rfl) (.plain rfl) rfl).to (y := bv false) (congrArg bv (by show (!decide (((n : Nat) : Int) = ((g.lat.length : Nat) : Int))) = false; rw [decide_eq_true (by omega)]; rfl)))
      apply Trace.pu [] (.move (.plain rfl))
      apply Trace.og rfl
      apply Trace.pu [] (.move (.plain rfl))
      apply Trace.og rfl
      apply Trace.cb [] [bk 0] (callArgs0 (.cons (.plain rfl) (.cons (.plain rfl) .nil))) (coO spec37 en37 l hln (by omega)) en36 (.cons rfl .nil) rfl rfl
      apply Trace.pu [] (.pick (.plain rfl) (.plain rfl) (.plain rfl))
      exact .nil _
    · exact keepOK_of hk hn rfl
    refine WPA.cond rfl (fun hc2 => ?_) (fun hc2 => ?_)
    · have hM : g.memory l = (Pl.none, 230) := by
        have h9 : l.any (fun x => !posOk x) = true := hc2
        unfold Gr.memory
        rw [if_neg (by rw [hC]; decide), if_neg]
        unfold Gr.posB
        rw [Bool.and_eq_true, Bool.and_eq_true, decide_eq_true_eq]
        rintro ⟨h1, h2, _⟩
        obtain ⟨x, hx, h3⟩ := List.any_eq_true.1 h9
        rw [List.all_eq_true.1 h2 x hx] at h3; cases h3
      apply WPA.seq
      apply WPA.region
      · apply Trace.pu [] (.build zo28 pl28 (.nil _ _) rfl)
        first | apply Trace.storeD ty28 (.plain rfl) (.plain rfl) rfl rfl (by simp) (by simp [AV.oneB, single, intsD, rowsD]) (by simp) (spliceL_all (by simp)) | apply Trace.storeD ty28 (.plain rfl) (.plain rfl) rfl rfl (by simp) (by simp [AV.oneB, single, intsD, rowsD]) (by simp) rfl | apply Trace.storeDA ty28 (.plain rfl) (.plain rfl) rfl rfl (by simp) (by simp [AV.oneB, single]) (by simp) rfl | apply Trace.storeLoc ty28 (.plain rfl) (.plain rfl) rfl rfl (by simp) (by simp [AV.oneB, single]) (by simp) rfl | apply Trace.storeRow ty28 (.plain rfl) (.plain rfl) rfl rfl rfl rfl (by decide) (by simp [AV.oneB, single]) rfl (by omega)
        apply Trace.pu [] (.assign (.plain rfl))
        exact .nil _
      · exact keepOK_of hk hn rfl
      refine WPA.ghost (Ghost.dataLe (l := 4) rfl (.rows (n := 1) (g := fun i => [Col.at (.ints .i64 []) i]) (.rows (n := 1) (g := fun i => [Col.at (.ints .i64 []) i]) (.same .nil)))) ?_
      apply WPA.ret
      refine ⟨.inr rfl, ⟨_, (.cons (.cellD rfl rfl ty28 rfl) (.cons (.tmp rfl) .nil)), ?_⟩, blks_of (.cons rfl .nil)⟩
      rw [hM]; rfl
    · obtain ⟨hll, hall⟩ : l.length = g.lat.length ∧ l.all posOk = true := by
        have h9 : l.any (fun x => !posOk x) = false := hc2
        refine ⟨by omega, List.all_eq_true.2 fun x hx => ?_⟩
        have := List.any_eq_false.1 h9 x hx
        simpa using this
      have hat := atOK_of hll hall
      have hdl : (g.delTo l g.es.length).length = g.es.length := by simp [Gr.delTo]
      have hmm := hok.m
      apply WPA.skip
      apply WPA.seq
      apply WPA.draw mixed
      · apply Trace.pu [] (.move (.plain rfl))
        apply Trace.cb [] [bk 0] (callArgs0 (.cons (.plain rfl) .nil)) (clO l hln h0 (by omega)) en38 (.cons rfl .nil) rfl rfl
        first | apply Trace.pu [_] (.loadAllD ty25 (.plain rfl) rfl (by simp)) | apply Trace.pu [_] (.loadLocD ty25 (.plain rfl) rfl (fun _ => by simp)) | apply Trace.pu [_] (.loadLoc ty25 (.plain rfl) rfl (fun _ => Nat.le_of_ble_eq_true rfl)) | apply Trace.pu [] (.loadRp ty25 (.plain rfl) (fun _ => by decide)) | apply Trace.pu [] (.loadRp ty25 (.plain rfl) (fun _ => Nat.le_of_ble_eq_true rfl)) | apply Trace.pu [_] (.loadCol ty25 (.plain rfl) rfl rfl (fun _ => by decide) (fun _ => by omega)) | apply Trace.pu [_] (.loadArr ty25 (.plain rfl) rfl)
        apply Trace.cu (callArgs0 (.cons (.plain rfl) (.cons (.plain rfl) .nil))) (spec28 hok hat) en28
        first | apply Trace.storeD ty28 (.plain rfl) (.plain rfl) rfl rfl (by simp) (by simp [AV.oneB, single, intsD, rowsD]) (by simp) (spliceL_all (by simp)) | apply Trace.storeD ty28 (.plain rfl) (.plain rfl) rfl rfl (by simp) (by simp [AV.oneB, single, intsD, rowsD]) (by simp) rfl | apply Trace.storeDA ty28 (.plain rfl) (.plain rfl) rfl rfl (by simp) (by simp [AV.oneB, single]) (by simp) rfl | apply Trace.storeLoc ty28 (.plain rfl) (.plain rfl) rfl rfl (by simp) (by simp [AV.oneB, single]) (by simp) rfl | apply Trace.storeRow ty28 (.plain rfl) (.plain rfl) rfl rfl rfl rfl (by decide) (by simp [AV.oneB, single]) rfl (by omega)
        exact .nil _
      · rfl
      · exact keepOK_of hk hn rfl
      apply WPA.seq
      apply WPA.seq
      apply WPA.region
      · apply Trace.pu [] (.fieldAddr fl28_1 (.plain rfl) rfl)
        first | apply Trace.pu [_] (.loadLoc1D ty22 (.plain rfl) rfl rfl) | apply Trace.pu [_] (.loadLoc1 ty22 (.plain rfl) rfl rfl) | apply Trace.pu [] (.loadRp1 ty22 (.plain rfl) rfl) | apply Trace.pu [_] (.loadCol1 ty22 (.plain rfl) rfl rfl rfl (fun _ => by omega))
        apply Trace.cu (callArgs0 (.cons (.plain rfl) (.cons (.plain rfl) .nil))) (spec36 spec39 en39 (g.delTo l g.es.length) (by omega)) en36
        exact .nil _
      · exact keepOK_of hk hn rfl
      refine WPA.cond rfl (fun hc3 => ?_) (fun hc3 => ?_)
      · have hM : g.memory l = (Pl.none, 230) := by
          unfold Gr.memory
          rw [if_neg (by rw [hC]; decide), if_neg]
          unfold Gr.posB
          rw [Bool.and_eq_true, Bool.and_eq_true]
          rintro ⟨_, _, h2⟩
          have hc3 : (g.delTo l g.es.length).any (fun x => decide (x < 0)) = true := hc3
          obtain ⟨x, hx, h3⟩ := List.any_eq_true.1 hc3
          obtain ⟨i, hi, rfl⟩ := List.mem_map.1 hx
          have h4 := List.all_eq_true.1 h2 i hi
          simp only [decide_eq_true_eq] at h3 h4
          omega
        apply WPA.seq
        apply WPA.region
        · apply Trace.pu [] (.build zo28 pl28 (.nil _ _) rfl)
          first | apply Trace.storeD ty28 (.plain rfl) (.plain rfl) rfl rfl (by simp) (by simp [AV.oneB, single, intsD, rowsD]) (by simp) (spliceL_all (by simp)) | apply Trace.storeD ty28 (.plain rfl) (.plain rfl) rfl rfl (by simp) (by simp [AV.oneB, single, intsD, rowsD]) (by simp) rfl | apply Trace.storeDA ty28 (.plain rfl) (.plain rfl) rfl rfl (by simp) (by simp [AV.oneB, single]) (by simp) rfl | apply Trace.storeLoc ty28 (.plain rfl) (.plain rfl) rfl rfl (by simp) (by simp [AV.oneB, single]) (by simp) rfl | apply Trace.storeRow ty28 (.plain rfl) (.plain rfl) rfl rfl rfl rfl (by decide) (by simp [AV.oneB, single]) rfl (by omega)
          apply Trace.pu [] (.assign (.plain rfl))
          exact .nil _
        · exact keepOK_of hk hn rfl
        refine WPA.ghost (Ghost.dataLe (l := 4) rfl (.rows (n := 1) (g := fun i => [Col.at (.ints .i64 []) i]) (.rows (n := 1) (g := fun i => [Col.at (.ints .i64 []) i]) (.same .nil)))) ?_
        apply WPA.ret
        refine ⟨.inr rfl, ⟨_, (.cons (.cellD rfl rfl ty28 rfl) (.cons (.tmp rfl) .nil)), ?_⟩, blks_of (.cons rfl .nil)⟩
        rw [hM]; rfl
      · apply WPA.skip
        apply WPA.seq
        apply WPA.region
        · first | apply Trace.pu [_] (.loadAllD ty28 (.plain rfl) rfl (by simp)) | apply Trace.pu [_] (.loadLocD ty28 (.plain rfl) rfl (fun _ => by simp)) | apply Trace.pu [_] (.loadLoc ty28 (.plain rfl) rfl (fun _ => Nat.le_of_ble_eq_true rfl)) | apply Trace.pu [] (.loadRp ty28 (.plain rfl) (fun _ => by decide)) | apply Trace.pu [] (.loadRp ty28 (.plain rfl) (fun _ => Nat.le_of_ble_eq_true rfl)) | apply Trace.pu [_] (.loadCol ty28 (.plain rfl) rfl rfl (fun _ => by decide) (fun _ => by omega)) | apply Trace.pu [_] (.loadArr ty28 (.plain rfl) rfl)
          first | apply Trace.storeD ty28 (.plain rfl) (.plain rfl) rfl rfl (by simp) (by simp [AV.oneB, single, intsD, rowsD]) (by simp) (spliceL_all (by simp)) | apply Trace.storeD ty28 (.plain rfl) (.plain rfl) rfl rfl (by simp) (by simp [AV.oneB, single, intsD, rowsD]) (by simp) rfl | apply Trace.storeDA ty28 (.plain rfl) (.plain rfl) rfl rfl (by simp) (by simp [AV.oneB, single]) (by simp) rfl | apply Trace.storeLoc ty28 (.plain rfl) (.plain rfl) rfl rfl (by simp) (by simp [AV.oneB, single]) (by simp) rfl | apply Trace.storeRow ty28 (.plain rfl) (.plain rfl) rfl rfl rfl rfl (by decide) (by simp [AV.oneB, single]) rfl (by omega)
          apply Trace.pu [] (.assign (.plain rfl))
          exact .nil _
        · exact keepOK_of hk hn rfl
        apply WPA.ret
        refine ⟨.inr rfl, ⟨_, (.cons (.cellD rfl rfl ty28 rfl) (.cons (.tmp rfl) .nil)), ?_⟩, blks_of (.cons rfl .nil)⟩
        have hM : g.memory l = (g.planOf l, 0) := by
          unfold Gr.memory
          rw [if_neg (by rw [hC]; decide), if_pos]
          unfold Gr.posB
          rw [decide_eq_true hll, hall, List.all_eq_true.2 fun i hi => ?_]
          · rfl
          · have hc3 : (g.delTo l g.es.length).any (fun x => decide (x < 0)) = false := hc3
            have := List.any_eq_false.1 hc3 (g.sl (fn l) i) (List.mem_map.2 ⟨i, hi, rfl⟩)
            simpa using this
        rw [hM]; rfl

theorem memory_two {g : Gr} (hC : g.check = 0) (l : List Int) : (g.memory l).2 = 0 ∨ (g.memory l).2 = 230 := by
  unfold Gr.memory
  rw [if_neg (by rw [hC]; decide)]
  split
  · exact .inl rfl
  · exact .inr rfl
/-- soundpost/soundposttop.TopPlan$1 -/
theorem woD {g : Gr} (hz : g.Sz) (hC : g.check = 0) (ht : g.Tiny) (l : List Int) (hll : l.length ≤ 4611686018427) : FnSpec Try.prog 17 [.d (intsD l), .loc 3 0, .loc 11 0, .loc 7 0] [(bk 3, .blk (.data g.ds)), (bk 11, .blk (.data [.v (.int .i64 (g.memTo g.best g.es.length))])), (bk 7, .blk (.data (g.planOf g.best).ds))] (bv true) [(bk 3, .blk (.data g.ds)), (bk 11, .blk (.data [.v (.int .i64 (g.memTo g.best g.es.length))])), (bk 7, .blk (.data (g.planOf g.best).ds))] [3, 11, 7] := by
  have hn1 := hz.n
  have hn2 := hz.m
  have hn3 := ht.n
  refine fnSpec_of (rs := [.tmp 5]) Try.func17 rfl rfl (Nat.le_of_ble_eq_true rfl) (odd_of rfl) fun E hk hn => ?_
  apply WPA.seq
  apply WPA.region
  · apply Trace.pu [] (.assign (.plain rfl))
    exact .nil _
  · exact keepOK_of hk hn rfl
  apply WPA.seq
  apply WPA.region
  · first | apply Trace.pu [_] (.loadAllD ty25 (.plain rfl) rfl (by simp)) | apply Trace.pu [_] (.loadLocD ty25 (.plain rfl) rfl (fun _ => by simp)) | apply Trace.pu [_] (.loadLoc ty25 (.plain rfl) rfl (fun _ => Nat.le_of_ble_eq_true rfl)) | apply Trace.pu [] (.loadRp ty25 (.plain rfl) (fun _ => by decide)) | apply Trace.pu [] (.loadRp ty25 (.plain rfl) (fun _ => Nat.le_of_ble_eq_true rfl)) | apply Trace.pu [_] (.loadCol ty25 (.plain rfl) rfl rfl (fun _ => by decide) (fun _ => by omega)) | apply Trace.pu [_] (.loadArr ty25 (.plain rfl) rfl)
    apply Trace.pu [] (.move (.plain rfl))
    apply Trace.ct (callArgs0 (.cons (.plain rfl) (.cons (.plain rfl) .nil))) (memN hz (at_ := l) (by omega) (p := (g.memory l).1) (c := (g.memory l).2) rfl) en18
    apply Trace.pu [] (.move (.plain rfl))
    apply Trace.pu [] (.extract (.plain rfl) rfl)
    apply Trace.pu [] (.extract (.plain rfl) rfl)
    apply Trace.alloc 6 [] (.data _) zo28 (cellsAs_data _) rfl
    first | apply Trace.storeD ty28 (.plain rfl) (.plain rfl) rfl rfl (by simp) (by simp [AV.oneB, single, intsD, rowsD]) (by simp) (spliceL_all (by simp)) | apply Trace.storeD ty28 (.plain rfl) (.plain rfl) rfl rfl (by simp) (by simp [AV.oneB, single, intsD, rowsD]) (by simp) rfl | apply Trace.storeDA ty28 (.plain rfl) (.plain rfl) rfl rfl (by simp) (by simp [AV.oneB, single]) (by simp) rfl | apply Trace.storeLoc ty28 (.plain rfl) (.plain rfl) rfl rfl (by simp) (by simp [AV.oneB, single]) (by simp) rfl | apply Trace.storeRow ty28 (.plain rfl) (.plain rfl) rfl rfl rfl rfl (by decide) (by simp [AV.oneB, single]) rfl (by omega)
    apply Trace.pu [] (.assign (.plain rfl))
    exact .nil _
  · exact keepOK_of hk hn rfl
  apply WPA.seq
  apply WPA.seq
  apply WPA.region
  · apply Trace.pu [] (.move (.plain rfl))
    apply Trace.pu [] (.cmp (.plain rfl) (.plain rfl) rfl)
    apply Trace.pu [] (.move (.plain rfl))
    apply Trace.pg [] rfl (.fieldAddr fl28_2 (.plain rfl) rfl)
    first | apply Trace.pg [_] rfl (.loadLoc1D ty3 (.gd rfl (fun h => h)) rfl rfl) | apply Trace.pg [_] rfl (.loadLoc1 ty3 (.gd rfl (fun h => h)) rfl rfl) | apply Trace.pg [] rfl (.loadRp1 ty3 (.gd rfl (fun h => h)) rfl) | apply Trace.pg [_] rfl (.loadCol1 ty3 (.gd rfl (fun h => h)) rfl rfl rfl (fun _ => by omega))
    first | apply Trace.pg [_] rfl (.loadLoc1D ty3 (.plain rfl) rfl rfl) | apply Trace.pg [_] rfl (.loadLoc1 ty3 (.plain rfl) rfl rfl) | apply Trace.pg [] rfl (.loadRp1 ty3 (.plain rfl) rfl) | apply Trace.pg [_] rfl (.loadCol1 ty3 (.plain rfl) rfl rfl rfl (fun _ => by omega))
    apply Trace.pg [] rfl (.cmp (.gd rfl (fun h => h)) (.gd rfl (fun h => h)) rfl)
    apply Trace.pu [] (.pick (.plain rfl) (.plain rfl) (.gd rfl (by simp)))
    exact .nil _
  · exact keepOK_of hk hn rfl
  refine WPA.cond rfl (fun hc1 => ?_) (fun hc1 => ?_)
  · apply WPA.seq
    apply WPA.region
    · apply Trace.pu [] (.move (.plain rfl))
      apply Trace.pu [] (.cmp (.plain rfl) (.plain rfl) rfl)
      apply Trace.pu [] (.move (.plain rfl))
      apply Trace.pg [] rfl (.move (.plain rfl))
      apply Trace.pg [] rfl (.cmp (.gd rfl (fun h => h)) (.plain rfl) rfl)
      apply Trace.pu [] (.pick (.plain rfl) (.plain rfl) (.gd rfl (by simp)))
      apply Trace.pu [] (.assign (.plain rfl))
      exact .nil _
    · exact keepOK_of hk hn rfl
    apply WPA.ret
    refine ⟨.inr rfl, ⟨_, (.cons (.tmp rfl) .nil), ?_⟩, blks_of (.cons rfl (.cons rfl (.cons rfl (.nil))))⟩
    have e : (bif decide ((g.memory l).2 = 0) then true else decide ((g.memory l).2 = 230)) = true := by
      rcases memory_two hC l with e | e
      · rw [decide_eq_true e]; rfl
      · rw [decide_eq_true e]; cases decide ((g.memory l).2 = 0) <;> rfl
    exact congrArg bv e.symm
  · obtain ⟨hE, hgt⟩ : (g.memory l).2 = 0 ∧ (g.memory l).1.mem ≤ g.memTo g.best g.es.length := by
      have h9 : (bif !decide ((g.memory l).2 = 0) then true else decide (g.memTo g.best g.es.length < (g.memory l).1.mem)) = false := hc1
      rw [bif_or, Bool.or_eq_false_iff, Bool.not_eq_false', decide_eq_true_eq, decide_eq_false_iff_not] at h9
      exact ⟨h9.1, by omega⟩
    obtain ⟨_, hP, hM⟩ := memory_ok hE
    rw [hM] at hgt ⊢
    have hmin := best_min hC hP
    have hgt : g.memTo l g.es.length ≤ g.memTo g.best g.es.length := hgt
    have hmin2 : g.memTo g.best g.es.length ≤ g.memTo l g.es.length := hmin
    have hlen := (posB_iff hP).1
    obtain ⟨_, _, hBst⟩ := best_mk (g.ok_of (check_formed hC)) (check_short hC)
    have hbl := hBst.len
    have hbl2 : (g.planOf g.best).at_.length = g.best.length := rfl
    apply WPA.skip
    apply WPA.seq
    apply WPA.seq
    apply WPA.region
    · apply Trace.pu [] (.fieldAddr fl28_2 (.plain rfl) rfl)
      first | apply Trace.pu [_] (.loadLoc1D ty3 (.plain rfl) rfl rfl) | apply Trace.pu [_] (.loadLoc1 ty3 (.plain rfl) rfl rfl) | apply Trace.pu [] (.loadRp1 ty3 (.plain rfl) rfl) | apply Trace.pu [_] (.loadCol1 ty3 (.plain rfl) rfl rfl rfl (fun _ => by omega))
      first | apply Trace.pu [_] (.loadLoc1D ty3 (.plain rfl) rfl rfl) | apply Trace.pu [_] (.loadLoc1 ty3 (.plain rfl) rfl rfl) | apply Trace.pu [] (.loadRp1 ty3 (.plain rfl) rfl) | apply Trace.pu [_] (.loadCol1 ty3 (.plain rfl) rfl rfl rfl (fun _ => by omega))
      apply Trace.pu [] (.cmp (.plain rfl) (.plain rfl) rfl)
      exact .nil _
    · exact keepOK_of hk hn rfl
    refine WPA.cond rfl (fun hc2 => ?_) (fun hc2 => ?_)
    · exfalso
      have h9 : g.memTo l g.es.length < g.memTo g.best g.es.length := of_decide_eq_true hc2
      omega
    · apply WPA.skip
      apply WPA.seq
      apply WPA.seq
      apply WPA.region
      · apply Trace.pu [] (.move (.plain rfl))
        apply Trace.pu [] (.len rfl Try.underlying22 (.plain rfl) rfl)
        apply Trace.pu [] (.move (.plain rfl))
        exact .nil _
      · exact keepOK_of hk hn rfl
      apply WPA.block
      refine WPA.loop (σ := Nat) (fun i => [(sl 0, .av (.d (intsD l))), (sl 1, .av (.loc 3 0)), (sl 2, .av (.loc 11 0)), (sl 3, .av (.loc 7 0)), (sl 34, .av (iv .i64 (l.length))), (sl 35, .av (iv .i64 (i))), (bk 3, .blk (.data g.ds)), (bk 11, .blk (.data [.v (.int .i64 (g.memTo g.best g.es.length))])), (bk 7, .blk (.data (g.planOf g.best).ds))]) (fun i => i ≤ l.length) (fun i => l.length - i) 0
        (St.le_cons rfl (St.le_cons rfl (St.le_cons rfl (St.le_cons rfl (St.le_cons rfl (St.le_cons rfl (St.le_cons rfl (St.le_cons rfl (St.le_cons rfl (St.le_nil _)))))))))) (Nat.zero_le _) fun i hi => ?_
      apply WPA.seq
      apply WPA.region
      · apply Trace.pu [] (.cmp (.plain rfl) (.plain rfl) rfl)
        exact .nil _
      · exact keepOK_of hk hn rfl
      apply WPA.seq
      refine WPA.cond rfl (fun hc3 => ?_) (fun hc3 => ?_)
      · have hlt : i < l.length := by
          have : ((i : Int) < l.length) := by simpa using hc3
          omega
        apply WPA.skip
        apply WPA.seq
        apply WPA.block
        apply WPA.seq
        apply WPA.region
        · apply Trace.pu [] (.move (.plain rfl))
          apply Trace.pu [] (.assign (.plain rfl))
          exact .nil _
        · exact keepOK_of hk hn rfl
        apply WPA.seq
        apply WPA.draw mixed
        · apply Trace.pu [] (.move (.plain rfl))
          apply Trace.pu [] (.move (.plain rfl))
          first | apply Trace.pu [] (.indexRows el22 (.plain rfl) (.plain rfl) (fun _ => ⟨by omega, by omega⟩)) | apply Trace.pu [] (.indexOwn el22 (.plain rfl) (.plain rfl) (fun _ => ⟨by omega, by omega⟩)) | apply Trace.pu [] (.indexSl el22 (.plain rfl) (.plain rfl) (fun _ => ⟨by omega, by omega⟩))
          first | apply Trace.pu [_] (.loadLoc1D ty3 (.plain rfl) rfl rfl) | apply Trace.pu [_] (.loadLoc1 ty3 (.plain rfl) rfl rfl) | apply Trace.pu [] (.loadRp1 ty3 (.plain rfl) rfl) | apply Trace.pu [_] (.loadCol1 ty3 (.plain rfl) rfl rfl rfl (fun _ => by omega))
          apply Trace.pu [] (.fieldAddr fl28_0 (.plain rfl) rfl)
          first | apply Trace.pu [_] (.loadLoc1D ty22 (.plain rfl) rfl rfl) | apply Trace.pu [_] (.loadLoc1 ty22 (.plain rfl) rfl rfl) | apply Trace.pu [] (.loadRp1 ty22 (.plain rfl) rfl) | apply Trace.pu [_] (.loadCol1 ty22 (.plain rfl) rfl rfl rfl (fun _ => by omega))
          apply Trace.pu [] (.move (.plain rfl))
          first | apply Trace.pu [] (.indexRows el22 (.plain rfl) (.plain rfl) (fun _ => ⟨by omega, by omega⟩)) | apply Trace.pu [] (.indexOwn el22 (.plain rfl) (.plain rfl) (fun _ => ⟨by omega, by omega⟩)) | apply Trace.pu [] (.indexSl el22 (.plain rfl) (.plain rfl) (fun _ => ⟨by omega, by omega⟩))
          first | apply Trace.pu [_] (.loadLoc1D ty3 (.plain rfl) rfl rfl) | apply Trace.pu [_] (.loadLoc1 ty3 (.plain rfl) rfl rfl) | apply Trace.pu [] (.loadRp1 ty3 (.plain rfl) rfl) | apply Trace.pu [_] (.loadCol1 ty3 (.plain rfl) rfl rfl rfl (fun _ => by omega))
          apply Trace.pu [] (.cmp (.plain rfl) (.plain rfl) rfl)
          exact .nil _
        · rfl
        · exact keepOK_of hk hn rfl
        refine WPA.cond rfl (fun hc4 => ?_) (fun hc4 => ?_)
        · exfalso
          have h9 : l.getD i 0 < g.best.getD i 0 := of_decide_eq_true hc4
          have := hBst.least _ (posB_iff hP).2.1 (show g.mem (fn l) = g.mem (fn g.best) from Int.le_antisymm hgt hmin2) i (by omega)
          unfold fn at this
          omega
        · apply WPA.skip
          apply WPA.region
          · apply Trace.pu [] (.arith (.plain rfl) (.plain rfl) rfl (fun _ => bd64 (by omega)))
            apply Trace.pu [] (.move (.plain rfl))
            exact .nil _
          · exact keepOK_of hk hn rfl
          exact ⟨i + 1, by omega, by omega, St.le_cons rfl (St.le_cons rfl (St.le_cons rfl (St.le_cons rfl (St.le_cons rfl (St.le_cons (slI (by omega)) (St.le_cons rfl (St.le_cons rfl (St.le_cons rfl (St.le_nil _)))))))))⟩
      · apply WPA.exit
        apply WPA.seq
        apply WPA.region
        · apply Trace.pu [] (.assign (.plain rfl))
          exact .nil _
        · exact keepOK_of hk hn rfl
        apply WPA.ret
        refine ⟨.inr rfl, ⟨_, (.cons (.tmp rfl) .nil), ?_⟩, blks_of (.cons rfl (.cons rfl (.cons rfl (.nil))))⟩
        rfl

/-- soundpost/soundposttop.TopPlan$1 -/
theorem woO {g : Gr} (hz : g.Sz) (hC : g.check = 0) (ht : g.Tiny) (l : List Int) {n : Nat} (hln : l.length = n) (hl : n = g.lat.length) (h0 : 0 < n) : FnSpec Try.prog 17 [.own 222 n, .loc 3 0, .loc 11 0, .loc 7 0] [(bk 222, .blk (.app 1 n [.ints .i64 l])), (bk 3, .blk (.data g.ds)), (bk 11, .blk (.data [.v (.int .i64 (g.memTo g.best g.es.length))])), (bk 7, .blk (.data (g.planOf g.best).ds))] (bv true) [(bk 222, .blk (.app 1 n [.ints .i64 l])), (bk 3, .blk (.data g.ds)), (bk 11, .blk (.data [.v (.int .i64 (g.memTo g.best g.es.length))])), (bk 7, .blk (.data (g.planOf g.best).ds))] [222, 3, 11, 7] := by
  have hn1 := hz.n
  have hn2 := hz.m
  have hn3 := ht.n
  refine fnSpec_of (rs := [.tmp 5]) Try.func17 rfl rfl (Nat.le_of_ble_eq_true rfl) (odd_of rfl) fun E hk hn => ?_
  apply WPA.seq
  apply WPA.region
  · apply Trace.pu [] (.assign (.plain rfl))
    exact .nil _
  · exact keepOK_of hk hn rfl
  apply WPA.seq
  apply WPA.region
  · first | apply Trace.pu [_] (.loadAllD ty25 (.plain rfl) rfl (by simp)) | apply Trace.pu [_] (.loadLocD ty25 (.plain rfl) rfl (fun _ => by simp)) | apply Trace.pu [_] (.loadLoc ty25 (.plain rfl) rfl (fun _ => Nat.le_of_ble_eq_true rfl)) | apply Trace.pu [] (.loadRp ty25 (.plain rfl) (fun _ => by decide)) | apply Trace.pu [] (.loadRp ty25 (.plain rfl) (fun _ => Nat.le_of_ble_eq_true rfl)) | apply Trace.pu [_] (.loadCol ty25 (.plain rfl) rfl rfl (fun _ => by decide) (fun _ => by omega)) | apply Trace.pu [_] (.loadArr ty25 (.plain rfl) rfl)
    apply Trace.pu [] (.move (.plain rfl))
    apply Trace.cb [] [bk 222] (callArgs0 (.cons (.plain rfl) (.cons (.plain rfl) .nil))) ((meO g hz hC l hln hl h0).as 0 222 rfl rfl rfl rfl rfl rfl rfl) en18 (.cons rfl .nil) rfl rfl
    apply Trace.pu [] (.move (.plain rfl))
    apply Trace.pu [] (.extract (.plain rfl) rfl)
    apply Trace.pu [] (.extract (.plain rfl) rfl)
    apply Trace.alloc 6 [] (.data _) zo28 (cellsAs_data _) rfl
    first | apply Trace.storeD ty28 (.plain rfl) (.plain rfl) rfl rfl (by simp) (by simp [AV.oneB, single, intsD, rowsD]) (by simp) (spliceL_all (by simp)) | apply Trace.storeD ty28 (.plain rfl) (.plain rfl) rfl rfl (by simp) (by simp [AV.oneB, single, intsD, rowsD]) (by simp) rfl | apply Trace.storeDA ty28 (.plain rfl) (.plain rfl) rfl rfl (by simp) (by simp [AV.oneB, single]) (by simp) rfl | apply Trace.storeLoc ty28 (.plain rfl) (.plain rfl) rfl rfl (by simp) (by simp [AV.oneB, single]) (by simp) rfl | apply Trace.storeRow ty28 (.plain rfl) (.plain rfl) rfl rfl rfl rfl (by decide) (by simp [AV.oneB, single]) rfl (by omega)
    apply Trace.pu [] (.assign (.plain rfl))
    exact .nil _
  · exact keepOK_of hk hn rfl
  apply WPA.seq
  apply WPA.seq
  apply WPA.region
  · apply Trace.pu [] (.move (.plain rfl))
    apply Trace.pu [] (.cmp (.plain rfl) (.plain rfl) rfl)
    apply Trace.pu [] (.move (.plain rfl))
    apply Trace.pg [] rfl (.fieldAddr fl28_2 (.plain rfl) rfl)
    first | apply Trace.pg [_] rfl (.loadLoc1D ty3 (.gd rfl (fun h => h)) rfl rfl) | apply Trace.pg [_] rfl (.loadLoc1 ty3 (.gd rfl (fun h => h)) rfl rfl) | apply Trace.pg [] rfl (.loadRp1 ty3 (.gd rfl (fun h => h)) rfl) | apply Trace.pg [_] rfl (.loadCol1 ty3 (.gd rfl (fun h => h)) rfl rfl rfl (fun _ => by omega))
    first | apply Trace.pg [_] rfl (.loadLoc1D ty3 (.plain rfl) rfl rfl) | apply Trace.pg [_] rfl (.loadLoc1 ty3 (.plain rfl) rfl rfl) | apply Trace.pg [] rfl (.loadRp1 ty3 (.plain rfl) rfl) | apply Trace.pg [_] rfl (.loadCol1 ty3 (.plain rfl) rfl rfl rfl (fun _ => by omega))
    apply Trace.pg [] rfl (.cmp (.gd rfl (fun h => h)) (.gd rfl (fun h => h)) rfl)
    apply Trace.pu [] (.pick (.plain rfl) (.plain rfl) (.gd rfl (by simp)))
    exact .nil _
  · exact keepOK_of hk hn rfl
  refine WPA.cond rfl (fun hc1 => ?_) (fun hc1 => ?_)
  · apply WPA.seq
    apply WPA.region
    · apply Trace.pu [] (.move (.plain rfl))
      apply Trace.pu [] (.cmp (.plain rfl) (.plain rfl) rfl)
      apply Trace.pu [] (.move (.plain rfl))
      apply Trace.pg [] rfl (.move (.plain rfl))
      apply Trace.pg [] rfl (.cmp (.gd rfl (fun h => h)) (.plain rfl) rfl)
      apply Trace.pu [] (.pick (.plain rfl) (.plain rfl) (.gd rfl (by simp)))
      apply Trace.pu [] (.assign (.plain rfl))
      exact .nil _
    · exact keepOK_of hk hn rfl
    apply WPA.ret
    refine ⟨.inr rfl, ⟨_, (.cons (.tmp rfl) .nil), ?_⟩, blks_of (.cons rfl (.cons rfl (.cons rfl (.cons rfl (.nil)))))⟩
    have e : (bif decide ((g.memory l).2 = 0) then true else decide ((g.memory l).2 = 230)) = true := by
      rcases memory_two hC l with e | e
      · rw [decide_eq_true e]; rfl
      · rw [decide_eq_true e]; cases decide ((g.memory l).2 = 0) <;> rfl
    exact congrArg bv e.symm
  · obtain ⟨hE, hgt⟩ : (g.memory l).2 = 0 ∧ (g.memory l).1.mem ≤ g.memTo g.best g.es.length := by
      have h9 : (bif !decide ((g.memory l).2 = 0) then true else decide (g.memTo g.best g.es.length < (g.memory l).1.mem)) = false := hc1
      rw [bif_or, Bool.or_eq_false_iff, Bool.not_eq_false', decide_eq_true_eq, decide_eq_false_iff_not] at h9
      exact ⟨h9.1, by omega⟩
    obtain ⟨_, hP, hM⟩ := memory_ok hE
    rw [hM] at hgt ⊢
    have hmin := best_min hC hP
    have hgt : g.memTo l g.es.length ≤ g.memTo g.best g.es.length := hgt
    have hmin2 : g.memTo g.best g.es.length ≤ g.memTo l g.es.length := hmin
    have hlen := (posB_iff hP).1
    obtain ⟨_, _, hBst⟩ := best_mk (g.ok_of (check_formed hC)) (check_short hC)
    have hbl := hBst.len
    have hbl2 : (g.planOf g.best).at_.length = g.best.length := rfl
    apply WPA.skip
    apply WPA.seq
    apply WPA.seq
    apply WPA.region
    · apply Trace.pu [] (.fieldAddr fl28_2 (.plain rfl) rfl)
      first | apply Trace.pu [_] (.loadLoc1D ty3 (.plain rfl) rfl rfl) | apply Trace.pu [_] (.loadLoc1 ty3 (.plain rfl) rfl rfl) | apply Trace.pu [] (.loadRp1 ty3 (.plain rfl) rfl) | apply Trace.pu [_] (.loadCol1 ty3 (.plain rfl) rfl rfl rfl (fun _ => by omega))
      first | apply Trace.pu [_] (.loadLoc1D ty3 (.plain rfl) rfl rfl) | apply Trace.pu [_] (.loadLoc1 ty3 (.plain rfl) rfl rfl) | apply Trace.pu [] (.loadRp1 ty3 (.plain rfl) rfl) | apply Trace.pu [_] (.loadCol1 ty3 (.plain rfl) rfl rfl rfl (fun _ => by omega))
      apply Trace.pu [] (.cmp (.plain rfl) (.plain rfl) rfl)
      exact .nil _
    · exact keepOK_of hk hn rfl
    refine WPA.cond rfl (fun hc2 => ?_) (fun hc2 => ?_)
    · exfalso
      have h9 : g.memTo l g.es.length < g.memTo g.best g.es.length := of_decide_eq_true hc2
      omega
    · apply WPA.skip
      apply WPA.seq
      apply WPA.seq
      apply WPA.region
      · apply Trace.pu [] (.move (.plain rfl))
        apply Trace.pu [] (.len rfl Try.underlying22 (.plain rfl) rfl)
        apply Trace.pu [] (.move (.plain rfl))
        exact .nil _
      · exact keepOK_of hk hn rfl
      apply WPA.block
      refine WPA.loop (σ := Nat) (fun i => [(sl 0, .av (.own 222 n)), (sl 1, .av (.loc 3 0)), (sl 2, .av (.loc 11 0)), (sl 3, .av (.loc 7 0)), (sl 34, .av (iv .i64 (n))), (sl 35, .av (iv .i64 (i))), (bk 222, .blk (.app 1 n [.ints .i64 l])), (bk 3, .blk (.data g.ds)), (bk 11, .blk (.data [.v (.int .i64 (g.memTo g.best g.es.length))])), (bk 7, .blk (.data (g.planOf g.best).ds))]) (fun i => i ≤ l.length) (fun i => l.length - i) 0
        (St.le_cons rfl (St.le_cons rfl (St.le_cons rfl (St.le_cons rfl (St.le_cons rfl (St.le_cons rfl (St.le_cons rfl (St.le_cons rfl (St.le_cons rfl (St.le_cons rfl (St.le_nil _))))))))))) (Nat.zero_le _) fun i hi => ?_
      apply WPA.seq
      apply WPA.region
      · apply Trace.pu [] (.cmp (.plain rfl) (.plain rfl) rfl)
        exact .nil _
      · exact keepOK_of hk hn rfl
      apply WPA.seq
      refine WPA.cond rfl (fun hc3 => ?_) (fun hc3 => ?_)
      · have hlt : i < l.length := by
          have : ((i : Int) < n) := by simpa using hc3
          omega
        apply WPA.skip
        apply WPA.seq
        apply WPA.block
        apply WPA.seq
        apply WPA.region
        · apply Trace.pu [] (.move (.plain rfl))
          apply Trace.pu [] (.assign (.plain rfl))
          exact .nil _
        · exact keepOK_of hk hn rfl
        apply WPA.seq
        apply WPA.draw mixed
        · apply Trace.pu [] (.move (.plain rfl))
          apply Trace.pu [] (.move (.plain rfl))
          first | apply Trace.pu [] (.indexRows el22 (.plain rfl) (.plain rfl) (fun _ => ⟨by omega, by omega⟩)) | apply Trace.pu [] (.indexOwn el22 (.plain rfl) (.plain rfl) (fun _ => ⟨by omega, by omega⟩)) | apply Trace.pu [] (.indexSl el22 (.plain rfl) (.plain rfl) (fun _ => ⟨by omega, by omega⟩))
          first | apply Trace.pu [_] (.loadLoc1D ty3 (.plain rfl) rfl rfl) | apply Trace.pu [_] (.loadLoc1 ty3 (.plain rfl) rfl rfl) | apply Trace.pu [] (.loadRp1 ty3 (.plain rfl) rfl) | apply Trace.pu [_] (.loadCol1 ty3 (.plain rfl) rfl rfl rfl (fun _ => by omega))
          apply Trace.pu [] (.fieldAddr fl28_0 (.plain rfl) rfl)
          first | apply Trace.pu [_] (.loadLoc1D ty22 (.plain rfl) rfl rfl) | apply Trace.pu [_] (.loadLoc1 ty22 (.plain rfl) rfl rfl) | apply Trace.pu [] (.loadRp1 ty22 (.plain rfl) rfl) | apply Trace.pu [_] (.loadCol1 ty22 (.plain rfl) rfl rfl rfl (fun _ => by omega))
          apply Trace.pu [] (.move (.plain rfl))
          first | apply Trace.pu [] (.indexRows el22 (.plain rfl) (.plain rfl) (fun _ => ⟨by omega, by omega⟩)) | apply Trace.pu [] (.indexOwn el22 (.plain rfl) (.plain rfl) (fun _ => ⟨by omega, by omega⟩)) | apply Trace.pu [] (.indexSl el22 (.plain rfl) (.plain rfl) (fun _ => ⟨by omega, by omega⟩))
          first | apply Trace.pu [_] (.loadLoc1D ty3 (.plain rfl) rfl rfl) | apply Trace.pu [_] (.loadLoc1 ty3 (.plain rfl) rfl rfl) | apply Trace.pu [] (.loadRp1 ty3 (.plain rfl) rfl) | apply Trace.pu [_] (.loadCol1 ty3 (.plain rfl) rfl rfl rfl (fun _ => by omega))
          apply Trace.pu [] (.cmp (.plain rfl) (.plain rfl) rfl)
          exact .nil _
        · rfl
        · exact keepOK_of hk hn rfl
        refine WPA.cond rfl (fun hc4 => ?_) (fun hc4 => ?_)
        · exfalso
          have h9 : l.getD i 0 < g.best.getD i 0 := of_decide_eq_true hc4
          have := hBst.least _ (posB_iff hP).2.1 (show g.mem (fn l) = g.mem (fn g.best) from Int.le_antisymm hgt hmin2) i (by omega)
          unfold fn at this
          omega
        · apply WPA.skip
          apply WPA.region
          · apply Trace.pu [] (.arith (.plain rfl) (.plain rfl) rfl (fun _ => bd64 (by omega)))
            apply Trace.pu [] (.move (.plain rfl))
            exact .nil _
          · exact keepOK_of hk hn rfl
          exact ⟨i + 1, by omega, by omega, St.le_cons rfl (St.le_cons rfl (St.le_cons rfl (St.le_cons rfl (St.le_cons rfl (St.le_cons (slI (by omega)) (St.le_cons rfl (St.le_cons rfl (St.le_cons rfl (St.le_cons rfl (St.le_nil _))))))))))⟩
      · apply WPA.exit
        apply WPA.seq
        apply WPA.region
        · apply Trace.pu [] (.assign (.plain rfl))
          exact .nil _
        · exact keepOK_of hk hn rfl
        apply WPA.ret
        refine ⟨.inr rfl, ⟨_, (.cons (.tmp rfl) .nil), ?_⟩, blks_of (.cons rfl (.cons rfl (.cons rfl (.cons rfl (.nil)))))⟩
        rfl

end Go.Proofs.Ytcidkahhfdcddaa


/- TopPlan. -/
namespace Go.Proofs.Ytcidkahhfdcddaa
open Go
set_option linter.unusedVariables false
set_option linter.unusedSimpArgs false
set_option maxRecDepth 10000
set_option maxHeartbeats 1000000

def Gr.few22 (g : Gr) : Bool := decide (g.lat.length ≤ 12) && decide (g.es.length ≤ 40)
def W6 (n : Nat) (l : List Int) : Int := sm n fun i => fn l i * 6 ^ i
theorem rep0 (n j : Nat) : fn (List.replicate n (0 : Int)) j = 0 := by
  show (List.replicate n (0 : Int)).getD j 0 = 0
  simp only [List.getD_eq_getElem?_getD, List.getElem?_replicate]; split <;> rfl
theorem W6_set {n : Nat} {l : List Int} {v : Nat} {x : Int} (hl : l.length = n) (hv : v < n) : W6 n (l.set v x) = W6 n l + (x - fn l v) * 6 ^ v := sm_set hl hv _
theorem W6_le {l : List Int} : ∀ n : Nat, (∀ j, j < n → 0 ≤ fn l j ∧ fn l j ≤ 5) → W6 n l ≤ 6 ^ n - 1
  | 0, _ => by show (0 : Int) ≤ 6 ^ 0 - 1; simp
  | n + 1, h => by
    have ih := W6_le n fun j hj => h j (by omega)
    have hx := h n (by omega)
    have hp : (0 : Int) ≤ 6 ^ n := Int.le_of_lt (Int.pow_pos (by decide))
    show W6 n l + fn l n * 6 ^ n ≤ _
    have := Int.mul_le_mul_of_nonneg_right hx.2 hp
    rw [Int.pow_succ]
    omega
theorem best_bound {g : Gr} (hC : g.check = 0) (ht : g.Tiny) : g.boundP (g.certF (fn g.best)) = (g.memTo g.best g.es.length, 0) := by
  obtain ⟨a, _, c⟩ := certF_flow hC ht (best_posB (g.ok_of (check_formed hC)) (check_short hC) ht)
  unfold Gr.boundP
  rw [if_neg (by rw [hC]; decide), if_pos a, c]; rfl
/-- soundpost/soundpostref22.Few -/
theorem spec10 (g : Gr) (hz : g.Sz) : FnSpec Try.prog 10 [g.av] [] (bv g.few22) [] [] := by
  have hn1 := hz.n
  have hn2 := hz.m
  refine fnSpec_of (rs := [.tmp 2]) Try.func10 rfl rfl (Nat.le_of_ble_eq_true rfl) (by simp [St.get]) fun E hk hn => ?_
  apply WPA.seq
  apply WPA.region
  · first | apply Trace.boxD 1 [] (.plain rfl) rfl rfl | apply Trace.box 1 [] (.plain rfl) rfl rfl rfl
    apply Trace.pu [] (.assign (.plain rfl))
    exact .nil _
  · exact keepOK_of hk hn rfl
  apply WPA.seq
  apply WPA.region
  · apply Trace.pu [] (.fieldAddr fl25_0 (.plain rfl) rfl)
    first | apply Trace.pu [_] (.loadLoc1D ty22 (.plain rfl) rfl rfl) | apply Trace.pu [_] (.loadLoc1 ty22 (.plain rfl) rfl rfl) | apply Trace.pu [] (.loadRp1 ty22 (.plain rfl) rfl) | apply Trace.pu [_] (.loadCol1 ty22 (.plain rfl) rfl rfl rfl (fun _ => by omega))
    apply Trace.pu [] (.len rfl Try.underlying22 (.plain rfl) rfl)
    apply Trace.pu [] (.cmp (.plain rfl) (.plain rfl) rfl)
    apply Trace.pu [] (.move (.plain rfl))
    apply Trace.pg [] rfl (.fieldAddr fl25_1 (.plain rfl) rfl)
    first | apply Trace.pg [_] rfl (.loadLoc1D ty23 (.gd rfl (fun h => h)) rfl rfl) | apply Trace.pg [_] rfl (.loadLoc1 ty23 (.gd rfl (fun h => h)) rfl rfl) | apply Trace.pg [] rfl (.loadRp1 ty23 (.gd rfl (fun h => h)) rfl) | apply Trace.pg [_] rfl (.loadCol1 ty23 (.gd rfl (fun h => h)) rfl rfl rfl (fun _ => by omega))
    apply Trace.pg [] rfl (.len rfl Try.underlying23 (.gd rfl (fun h => h)) rfl)
    apply Trace.pg [] rfl (.cmp (.gd rfl (fun h => h)) (.plain rfl) rfl)
    apply Trace.pu [] (.pick (.plain rfl) (.gd rfl (by simp)) (.plain rfl))
    apply Trace.pu [] (.assign (.plain rfl))
    exact .nil _
  · exact keepOK_of hk hn rfl
  apply WPA.ret
  refine ⟨.inr rfl, ⟨_, (.cons (.tmp rfl) .nil), ?_⟩, by simp [St.get]⟩
  have e : g.few22 = (bif decide ((g.lat.length : Int) ≤ 12) then decide ((g.es.length : Int) ≤ 40) else false) := by
    rw [bif_and]; unfold Gr.few22
    congr 1
    · exact decide_eq_decide.2 (by omega)
    · exact decide_eq_decide.2 (by omega)
  rw [e]; rfl

/-- soundpost/soundposttop.TopPlan -/
theorem spec3 (g : Gr) (hz : g.Sz) (at_ flow : List Int) (ha : at_.length ≤ 4611686018427387904) (hf : flow.length ≤ 4611686018427387904) : FnSpec Try.prog 3 [g.av, .d (intsD at_), .d (intsD flow)] [] (bv true) [] [] := by
  have hn1 := hz.n
  have hn2 := hz.m
  refine fnSpec_of (rs := [.tmp 6]) Try.func3 rfl rfl (Nat.le_of_ble_eq_true rfl) (by simp [St.get]) fun E hk hn => ?_
  apply WPA.seq
  apply WPA.region
  · first | apply Trace.boxD 3 [] (.plain rfl) rfl rfl | apply Trace.box 3 [] (.plain rfl) rfl rfl rfl
    apply Trace.pu [] (.assign (.plain rfl))
    exact .nil _
  · exact keepOK_of hk hn rfl
  apply WPA.seq
  apply WPA.seq
  apply WPA.region
  · first | apply Trace.pu [_] (.loadAllD ty25 (.plain rfl) rfl (by simp)) | apply Trace.pu [_] (.loadLocD ty25 (.plain rfl) rfl (fun _ => by simp)) | apply Trace.pu [_] (.loadLoc ty25 (.plain rfl) rfl (fun _ => Nat.le_of_ble_eq_true rfl)) | apply Trace.pu [] (.loadRp ty25 (.plain rfl) (fun _ => by decide)) | apply Trace.pu [] (.loadRp ty25 (.plain rfl) (fun _ => Nat.le_of_ble_eq_true rfl)) | apply Trace.pu [_] (.loadCol ty25 (.plain rfl) rfl rfl (fun _ => by decide) (fun _ => by omega)) | apply Trace.pu [_] (.loadArr ty25 (.plain rfl) rfl)
    apply Trace.cu (callArgs0 (.cons (.plain rfl) .nil)) (spec10 g hz) en10
    apply Trace.pu [] (.not (.plain rfl))
    apply Trace.pu [] (.move (.plain rfl))
    first | apply Trace.pg [_] rfl (.loadAllD ty25 (.plain rfl) rfl (by simp)) | apply Trace.pg [_] rfl (.loadLocD ty25 (.plain rfl) rfl (fun _ => by simp)) | apply Trace.pg [_] rfl (.loadLoc ty25 (.plain rfl) rfl (fun _ => Nat.le_of_ble_eq_true rfl)) | apply Trace.pg [] rfl (.loadRp ty25 (.plain rfl) (fun _ => by decide)) | apply Trace.pg [] rfl (.loadRp ty25 (.plain rfl) (fun _ => Nat.le_of_ble_eq_true rfl)) | apply Trace.pg [_] rfl (.loadCol ty25 (.plain rfl) rfl rfl (fun _ => by decide) (fun _ => by omega)) | apply Trace.pg [_] rfl (.loadArr ty25 (.plain rfl) rfl)
    apply Trace.cg rfl (callArgs0 (.cons (.gd rfl (fun h => h)) .nil)) (fun _ => spec11 g hz) en11
    apply Trace.pg [] rfl (.not (.gd rfl (fun h => h)))
    apply Trace.pu [] (.pick (.plain rfl) (.plain rfl) (.gd rfl (by simp)))
    apply Trace.pu [] (.move (.plain rfl))
    apply Trace.pg [] rfl (.move (.plain rfl))
    apply Trace.pg [] rfl (.len rfl Try.underlying22 (.gd rfl (fun h => h)) rfl)
    apply Trace.pg [] rfl (.cmp (.gd rfl (fun h => h)) (.plain rfl) rfl)
    apply Trace.pu [] (.pick (.plain rfl) (.plain rfl) (.gd rfl (by simp)))
    apply Trace.pu [] (.move (.plain rfl))
    apply Trace.pg [] rfl (.move (.plain rfl))
    apply Trace.pg [] rfl (.len rfl Try.underlying22 (.gd rfl (fun h => h)) rfl)
    apply Trace.pg [] rfl (.cmp (.gd rfl (fun h => h)) (.plain rfl) rfl)
    apply Trace.pu [] (.pick (.plain rfl) (.plain rfl) (.gd rfl (by simp)))
    exact .nil _
  · exact keepOK_of hk hn rfl
  refine WPA.cond rfl (fun hc1 => ?_) (fun hc1 => ?_)
  · apply WPA.seq
    apply WPA.region
    · apply Trace.pu [] (.assign (.plain rfl))
      exact .nil _
    · exact keepOK_of hk hn rfl
    apply WPA.ret
    refine ⟨.inr rfl, ⟨_, (.cons (.tmp rfl) .nil), ?_⟩, by simp [St.get]⟩
    rfl
  · obtain ⟨hf2, hla, hlf⟩ : g.few22 = true ∧ at_.length ≤ 20 ∧ flow.length ≤ 60 := by
      have h9 : (bif (bif (bif !g.few22 then true else !g.few) then true else decide ((20 : Int) < at_.length)) then true else decide ((60 : Int) < flow.length)) = false := hc1
      rw [bif_or, bif_or, bif_or, Bool.or_eq_false_iff, Bool.or_eq_false_iff, Bool.or_eq_false_iff, Bool.not_eq_false', Bool.not_eq_false', decide_eq_false_iff_not, decide_eq_false_iff_not] at h9
      exact ⟨h9.1.1.1, by omega, by omega⟩
    obtain ⟨hnn, hmm⟩ : g.lat.length ≤ 12 ∧ g.es.length ≤ 40 := by
      unfold Gr.few22 at hf2
      simp only [Bool.and_eq_true, decide_eq_true_eq] at hf2
      exact hf2
    have ht : g.Tiny := ⟨by omega, by omega⟩
    have hme : g.makeP.2 = g.check := by
      unfold Gr.makeP
      split
      · rfl
      · rename_i h; exact (Classical.not_not.1 h).symm
    apply WPA.skip
    apply WPA.seq
    apply WPA.region
    · first | apply Trace.pu [_] (.loadAllD ty25 (.plain rfl) rfl (by simp)) | apply Trace.pu [_] (.loadLocD ty25 (.plain rfl) rfl (fun _ => by simp)) | apply Trace.pu [_] (.loadLoc ty25 (.plain rfl) rfl (fun _ => Nat.le_of_ble_eq_true rfl)) | apply Trace.pu [] (.loadRp ty25 (.plain rfl) (fun _ => by decide)) | apply Trace.pu [] (.loadRp ty25 (.plain rfl) (fun _ => Nat.le_of_ble_eq_true rfl)) | apply Trace.pu [_] (.loadCol ty25 (.plain rfl) rfl rfl (fun _ => by decide) (fun _ => by omega)) | apply Trace.pu [_] (.loadArr ty25 (.plain rfl) rfl)
      apply Trace.ct (callArgs0 (.cons (.plain rfl) .nil)) (makeN hz (fun _ => ht.small) (p := g.makeP.1) (c := g.makeP.2) rfl) en12
      apply Trace.pu [] (.move (.plain rfl))
      apply Trace.pu [] (.extract (.plain rfl) rfl)
      apply Trace.pu [] (.extract (.plain rfl) rfl)
      apply Trace.alloc 7 [] (.data _) zo28 (cellsAs_data _) rfl
      first | apply Trace.storeD ty28 (.plain rfl) (.plain rfl) rfl rfl (by simp) (by simp [AV.oneB, single, intsD, rowsD]) (by simp) (spliceL_all (by simp)) | apply Trace.storeD ty28 (.plain rfl) (.plain rfl) rfl rfl (by simp) (by simp [AV.oneB, single, intsD, rowsD]) (by simp) rfl | apply Trace.storeDA ty28 (.plain rfl) (.plain rfl) rfl rfl (by simp) (by simp [AV.oneB, single]) (by simp) rfl | apply Trace.storeLoc ty28 (.plain rfl) (.plain rfl) rfl rfl (by simp) (by simp [AV.oneB, single]) (by simp) rfl | apply Trace.storeRow ty28 (.plain rfl) (.plain rfl) rfl rfl rfl rfl (by decide) (by simp [AV.oneB, single]) rfl (by omega)
      apply Trace.pu [] (.assign (.plain rfl))
      exact .nil _
    · exact keepOK_of hk hn rfl
    apply WPA.seq
    apply WPA.seq
    apply WPA.region
    · first | apply Trace.pu [_] (.loadAllD ty25 (.plain rfl) rfl (by simp)) | apply Trace.pu [_] (.loadLocD ty25 (.plain rfl) rfl (fun _ => by simp)) | apply Trace.pu [_] (.loadLoc ty25 (.plain rfl) rfl (fun _ => Nat.le_of_ble_eq_true rfl)) | apply Trace.pu [] (.loadRp ty25 (.plain rfl) (fun _ => by decide)) | apply Trace.pu [] (.loadRp ty25 (.plain rfl) (fun _ => Nat.le_of_ble_eq_true rfl)) | apply Trace.pu [_] (.loadCol ty25 (.plain rfl) rfl rfl (fun _ => by decide) (fun _ => by omega)) | apply Trace.pu [_] (.loadArr ty25 (.plain rfl) rfl)
      apply Trace.cu (callArgs0 (.cons (.plain rfl) .nil)) (spec13 g hz) en13
      apply Trace.pu [] (.assign (.plain rfl))
      exact .nil _
    · exact keepOK_of hk hn rfl
    apply WPA.seq
    apply WPA.region
    · apply Trace.pu [] (.move (.plain rfl))
      apply Trace.pu [] (.move (.plain rfl))
      apply Trace.pu [] (.cmp (.plain rfl) (.plain rfl) rfl)
      apply Trace.pu [] (.move (.plain rfl))
      apply Trace.pg [] rfl (.move (.plain rfl))
      apply Trace.pg [] rfl (.cmp (.gd rfl (fun h => h)) (.plain rfl) rfl)
      apply Trace.pu [] (.pick (.plain rfl) (.plain rfl) (.gd rfl (by simp)))
      exact .nil _
    · exact keepOK_of hk hn rfl
    refine WPA.cond rfl (fun hc2 => ?_) (fun hc2 => ?_)
    · have hC : g.check ≠ 0 := fun h => by
        have h9 : (bif !decide (g.makeP.2 = g.check) then true else !decide (g.makeP.2 = 0)) = true := hc2
        rw [hme, h] at h9; cases h9
      have hM : g.makeP = (Pl.none, g.check) := by unfold Gr.makeP; rw [if_pos hC]
      rw [hM]
      have qn1 : ((Pl.none, g.check) : Pl × Int).1.at_.length = 0 := rfl
      have qn2 : ((Pl.none, g.check) : Pl × Int).1.del.length = 0 := rfl
      apply WPA.seq
      apply WPA.region
      · apply Trace.pu [] (.move (.plain rfl))
        apply Trace.pu [] (.move (.plain rfl))
        apply Trace.pu [] (.cmp (.plain rfl) (.plain rfl) rfl)
        apply Trace.pu [] (.move (.plain rfl))
        apply Trace.pg [] rfl (.fieldAddr fl28_2 (.plain rfl) rfl)
        first | apply Trace.pg [_] rfl (.loadLoc1D ty3 (.gd rfl (fun h => h)) rfl rfl) | apply Trace.pg [_] rfl (.loadLoc1 ty3 (.gd rfl (fun h => h)) rfl rfl) | apply Trace.pg [] rfl (.loadRp1 ty3 (.gd rfl (fun h => h)) rfl) | apply Trace.pg [_] rfl (.loadCol1 ty3 (.gd rfl (fun h => h)) rfl rfl rfl (fun _ => by omega))
        apply Trace.pg [] rfl (.cmp (.gd rfl (fun h => h)) (.plain rfl) rfl)
        apply Trace.pu [] (.pick (.plain rfl) (.gd rfl (by simp)) (.plain rfl))
        apply Trace.pu [] (.move (.plain rfl))
        apply Trace.pg [] rfl (.fieldAddr fl28_0 (.plain rfl) rfl)
        first | apply Trace.pg [_] rfl (.loadLoc1D ty22 (.gd rfl (fun h => h)) rfl rfl) | apply Trace.pg [_] rfl (.loadLoc1 ty22 (.gd rfl (fun h => h)) rfl rfl) | apply Trace.pg [] rfl (.loadRp1 ty22 (.gd rfl (fun h => h)) rfl) | apply Trace.pg [_] rfl (.loadCol1 ty22 (.gd rfl (fun h => h)) rfl rfl rfl (fun _ => by omega))
        apply Trace.pg [] rfl (.len rfl Try.underlying22 (.gd rfl (fun h => h)) rfl)
        apply Trace.pg [] rfl (.fieldAddr fl28_1 (.plain rfl) rfl)
        first | apply Trace.pg [_] rfl (.loadLoc1D ty22 (.gd rfl (fun h => h)) rfl rfl) | apply Trace.pg [_] rfl (.loadLoc1 ty22 (.gd rfl (fun h => h)) rfl rfl) | apply Trace.pg [] rfl (.loadRp1 ty22 (.gd rfl (fun h => h)) rfl) | apply Trace.pg [_] rfl (.loadCol1 ty22 (.gd rfl (fun h => h)) rfl rfl rfl (fun _ => by omega))
        apply Trace.pg [] rfl (.len rfl Try.underlying22 (.gd rfl (fun h => h)) rfl)
        apply Trace.pg [] rfl (.arith (.gd rfl (fun h => h)) (.gd rfl (fun h => h)) rfl (fun _ => bd64 (by omega)))
        apply Trace.pg [] rfl (.cmp (.gd rfl (fun h => h)) (.plain rfl) rfl)
        apply Trace.pu [] (.pick (.plain rfl) (.gd rfl (by simp)) (.plain rfl))
        apply Trace.pu [] (.assign (.plain rfl))
        exact .nil _
      · exact keepOK_of hk hn rfl
      apply WPA.ret
      refine ⟨.inr rfl, ⟨_, (.cons (.tmp rfl) .nil), ?_⟩, by simp [St.get]⟩
      exact congrArg bv (show (bif (bif decide (g.check = g.check) then decide ((0 : Int) = 0) else false) then decide ((0 : Int) + 0 = 0) else false) = true by rw [decide_eq_true (rfl : g.check = g.check)]; rfl).symm
    · have hC : g.check = 0 := Classical.byContradiction fun hC => by
        have h9 : (bif !decide (g.makeP.2 = g.check) then true else !decide (g.makeP.2 = 0)) = false := hc2
        rw [hme, decide_eq_true (rfl : g.check = g.check), decide_eq_false hC] at h9; cases h9
      rw [make_ok hC]
      have hok := g.ok_of (check_formed hC)
      have hsh := check_short hC
      have hPb := best_posB hok hsh ht
      obtain ⟨hq1, hq2, hq3⟩ := posB_iff hPb
      have hat := posB_atOK hPb
      have hq4 : ∀ v : Nat, 0 ≤ g.best.getD v 0 ∧ g.best.getD v 0 ≤ 4398046511104 := hat.bd
      have hdl := delTo_len g g.best g.es.length
      have hbz : (g.planOf g.best).Sz := ⟨by show g.best.length ≤ _; omega, by show (g.delTo g.best g.es.length).length ≤ _; omega⟩
      have hcl := certF_len hC ht hPb
      have q1 : (g.planOf g.best).at_.length = g.best.length := rfl
      have q2 : (g.planOf g.best).del.length = g.es.length := hdl
      have htm := fun i hi => memTo_bd hok hat i hi
      apply WPA.skip
      apply WPA.seq
      apply WPA.region
      · apply Trace.pu [] (.fieldAddr fl25_0 (.plain rfl) rfl)
        first | apply Trace.pu [_] (.loadLoc1D ty22 (.plain rfl) rfl rfl) | apply Trace.pu [_] (.loadLoc1 ty22 (.plain rfl) rfl rfl) | apply Trace.pu [] (.loadRp1 ty22 (.plain rfl) rfl) | apply Trace.pu [_] (.loadCol1 ty22 (.plain rfl) rfl rfl rfl (fun _ => by omega))
        apply Trace.pu [] (.len rfl Try.underlying22 (.plain rfl) rfl)
        apply Trace.pu [] (.assign (.plain rfl))
        exact .nil _
      · exact keepOK_of hk hn rfl
      apply WPA.seq
      apply WPA.seq
      apply WPA.region
      · apply Trace.pu [] (.fieldAddr fl28_0 (.plain rfl) rfl)
        first | apply Trace.pu [_] (.loadLoc1D ty22 (.plain rfl) rfl rfl) | apply Trace.pu [_] (.loadLoc1 ty22 (.plain rfl) rfl rfl) | apply Trace.pu [] (.loadRp1 ty22 (.plain rfl) rfl) | apply Trace.pu [_] (.loadCol1 ty22 (.plain rfl) rfl rfl rfl (fun _ => by omega))
        apply Trace.pu [] (.len rfl Try.underlying22 (.plain rfl) rfl)
        apply Trace.pu [] (.move (.plain rfl))
        apply Trace.pu [] (.cmp (.plain rfl) (.plain rfl) rfl)
        apply Trace.pu [] (.move (.plain rfl))
        apply Trace.pg [] rfl (.fieldAddr fl28_1 (.plain rfl) rfl)
        first | apply Trace.pg [_] rfl (.loadLoc1D ty22 (.gd rfl (fun h => h)) rfl rfl) | apply Trace.pg [_] rfl (.loadLoc1 ty22 (.gd rfl (fun h => h)) rfl rfl) | apply Trace.pg [] rfl (.loadRp1 ty22 (.gd rfl (fun h => h)) rfl) | apply Trace.pg [_] rfl (.loadCol1 ty22 (.gd rfl (fun h => h)) rfl rfl rfl (fun _ => by omega))
        apply Trace.pg [] rfl (.len rfl Try.underlying22 (.gd rfl (fun h => h)) rfl)
        apply Trace.pg [] rfl (.fieldAddr fl25_1 (.plain rfl) rfl)
        first | apply Trace.pg [_] rfl (.loadLoc1D ty23 (.gd rfl (fun h => h)) rfl rfl) | apply Trace.pg [_] rfl (.loadLoc1 ty23 (.gd rfl (fun h => h)) rfl rfl) | apply Trace.pg [] rfl (.loadRp1 ty23 (.gd rfl (fun h => h)) rfl) | apply Trace.pg [_] rfl (.loadCol1 ty23 (.gd rfl (fun h => h)) rfl rfl rfl (fun _ => by omega))
        apply Trace.pg [] rfl (.len rfl Try.underlying23 (.gd rfl (fun h => h)) rfl)
        apply Trace.pg [] rfl (.cmp (.gd rfl (fun h => h)) (.gd rfl (fun h => h)) rfl)
        apply Trace.pu [] (.pick (.plain rfl) (.plain rfl) (.gd rfl (by simp)))
        exact .nil _
      · exact keepOK_of hk hn rfl
      refine WPA.cond rfl (fun hc3 => ?_) (fun hc3 => ?_)
      · exfalso
        have h9 : (bif !decide (((g.best.length : Nat) : Int) = g.lat.length) then true else !decide ((((g.planOf g.best).del.length : Nat) : Int) = g.es.length)) = true := hc3
        rw [decide_eq_true (by omega), decide_eq_true (by omega)] at h9
        cases h9
      · apply WPA.skip
        apply WPA.seq
        apply WPA.region
        · apply Trace.alloc 11 [] (.data _) zo3 (cellsAs_data _) rfl
          first | apply Trace.storeD ty3 (.plain rfl) (.plain rfl) rfl rfl rfl (by simp [AV.oneB, single]) (Nat.le_of_ble_eq_true rfl) rfl | apply Trace.storeDA ty3 (.plain rfl) (.plain rfl) rfl rfl rfl (by simp [AV.oneB, single]) (Nat.le_of_ble_eq_true rfl) rfl | apply Trace.storeLoc ty3 (.plain rfl) (.plain rfl) rfl rfl rfl (by simp [AV.oneB, single]) (Nat.le_of_ble_eq_true rfl) rfl | apply Trace.storeRow ty3 (.plain rfl) (.plain rfl) rfl rfl rfl rfl (by decide) (by simp [AV.oneB, single]) rfl (by omega)
          exact .nil _
        · exact keepOK_of hk hn rfl
        apply WPA.seq
        apply WPA.seq
        apply WPA.region
        · apply Trace.pu [] (.fieldAddr fl25_1 (.plain rfl) rfl)
          first | apply Trace.pu [_] (.loadLoc1D ty23 (.plain rfl) rfl rfl) | apply Trace.pu [_] (.loadLoc1 ty23 (.plain rfl) rfl rfl) | apply Trace.pu [] (.loadRp1 ty23 (.plain rfl) rfl) | apply Trace.pu [_] (.loadCol1 ty23 (.plain rfl) rfl rfl rfl (fun _ => by omega))
          apply Trace.pu [] (.len rfl Try.underlying23 (.plain rfl) rfl)
          apply Trace.pu [] (.move (.plain rfl))
          exact .nil _
        · exact keepOK_of hk hn rfl
        apply WPA.block
        refine WPA.loop (σ := Nat) (fun i => [(sl 1, .av (.d (intsD at_))), (sl 2, .av (.d (intsD flow))), (sl 3, .av (.loc 3 0)), (sl 7, .av (.loc 7 0)), (sl 10, .av (iv .i64 (g.lat.length))), (sl 11, .av (.loc 11 0)), (sl 93, .av (.d (edgesD g.es))), (sl 94, .av (iv .i64 (g.es.length))), (sl 95, .av (iv .i64 (i))), (bk 3, .blk (.data g.ds)), (bk 7, .blk (.data (g.planOf g.best).ds)), (bk 11, .blk (.data [.v (.int .i64 (g.memTo g.best i))]))]) (fun i => i ≤ g.es.length) (fun i => g.es.length - i) 0
          (St.le_cons rfl (St.le_cons rfl (St.le_cons rfl (St.le_cons rfl (St.le_cons rfl (St.le_cons rfl (St.le_cons rfl (St.le_cons rfl (St.le_cons rfl (St.le_cons rfl (St.le_cons rfl (St.le_cons rfl (St.le_nil _))))))))))))) (Nat.zero_le _) fun i hi => ?_
        apply WPA.seq
        apply WPA.region
        · apply Trace.pu [] (.cmp (.plain rfl) (.plain rfl) rfl)
          exact .nil _
        · exact keepOK_of hk hn rfl
        apply WPA.seq
        refine WPA.cond rfl (fun hc4 => ?_) (fun hc4 => ?_)
        · have hlt : i < g.es.length := by simpa using hc4
          obtain ⟨e, he⟩ : ∃ e, g.es.getD i default = e := ⟨_, rfl⟩
          have hem : e ∈ g.es := by rw [← he]; exact (Gr.edge hok hlt).1
          obtain ⟨he1, he2, he3, he4, he5, he6, he7, he8, he9, he10⟩ := Gr.edge_mem hok hem
          have hed : g.ed i = e := he
          have hde : (g.delTo g.best g.es.length).getD i 0 = g.best.getD e.t.toNat 0 + e.d - g.best.getD e.f.toNat 0 - g.lat.getD e.f.toNat 0 := by rw [delTo_at g g.best hlt, ← he]; rfl
          have hde2 : (g.planOf g.best).del.getD ((i : Nat) : Int).toNat 0 = g.best.getD e.t.toNat 0 + e.d - g.best.getD e.f.toNat 0 - g.lat.getD e.f.toNat 0 := hde
          have hsl := hq2.sl i hlt
          have hsl2 : g.sl (fn g.best) i = g.best.getD e.t.toNat 0 + e.d - g.best.getD e.f.toNat 0 - g.lat.getD e.f.toNat 0 := by rw [← he]; rfl
          have hb1 := hq4 e.t.toNat
          have hb2 := hq4 e.f.toNat
          have hsb := (sl_bd hok hat hlt).2.2
          rw [hed, hsl2, ← hde2] at hsb
          have hcm := Int.mul_comm ((g.planOf g.best).del.getD ((i : Nat) : Int).toNat 0) e.w
          have hti := htm i hi
          have hti2 := htm (i + 1) hlt
          have hms := memTo_succ g g.best i
          rw [hed, hsl2, ← hde2] at hms
          have q3 : (g.planOf g.best).at_.getD e.t.toNat 0 = g.best.getD e.t.toNat 0 := rfl
          have q5 : (g.planOf g.best).at_.getD e.f.toNat 0 = g.best.getD e.f.toNat 0 := rfl
          have q4 : (g.planOf g.best).del.getD ((i : Nat) : Int).toNat 0 = (g.delTo g.best g.es.length).getD i 0 := rfl
          apply WPA.skip
          apply WPA.seq
          apply WPA.block
          apply WPA.seq
          apply WPA.region
          · apply Trace.pu [] (.move (.plain rfl))
            apply Trace.pu [] ((Pure.indexRows el23 (.plain rfl) (.plain rfl) (fun _ => ⟨by omega, by omega⟩)).to (y := .rp e.ds) (by show AV.rp (g.es.getD i default).ds = _; rw [he]))
            first | apply Trace.pu [_] (.loadAllD ty34 (.plain rfl) rfl (by simp)) | apply Trace.pu [_] (.loadLocD ty34 (.plain rfl) rfl (fun _ => by simp)) | apply Trace.pu [_] (.loadLoc ty34 (.plain rfl) rfl (fun _ => Nat.le_of_ble_eq_true rfl)) | apply Trace.pu [] (.loadRp ty34 (.plain rfl) (fun _ => by decide)) | apply Trace.pu [] (.loadRp ty34 (.plain rfl) (fun _ => Nat.le_of_ble_eq_true rfl)) | apply Trace.pu [_] (.loadCol ty34 (.plain rfl) rfl rfl (fun _ => by decide) (fun _ => by omega)) | apply Trace.pu [_] (.loadArr ty34 (.plain rfl) rfl)
            apply Trace.alloc 13 [] (.data _) zo34 (cellsAs_data _) rfl
            apply Trace.pu [] (.assign (.plain rfl))
            first | apply Trace.storeD ty34 (.plain rfl) (.plain rfl) rfl rfl (by simp) (by simp [AV.oneB, single, intsD, rowsD]) (by simp) (spliceL_all (by simp)) | apply Trace.storeD ty34 (.plain rfl) (.plain rfl) rfl rfl (by simp) (by simp [AV.oneB, single, intsD, rowsD]) (by simp) rfl | apply Trace.storeDA ty34 (.plain rfl) (.plain rfl) rfl rfl (by simp) (by simp [AV.oneB, single]) (by simp) rfl | apply Trace.storeLoc ty34 (.plain rfl) (.plain rfl) rfl rfl (by simp) (by simp [AV.oneB, single]) (by simp) rfl | apply Trace.storeRow ty34 (.plain rfl) (.plain rfl) rfl rfl rfl rfl (by decide) (by simp [AV.oneB, single]) rfl (by omega)
            exact .nil _
          · exact keepOK_of hk hn rfl
          apply WPA.seq
          apply WPA.seq
          apply WPA.draw mixed
          · apply Trace.pu [] (.fieldAddr fl28_0 (.plain rfl) rfl)
            first | apply Trace.pu [_] (.loadLoc1D ty22 (.plain rfl) rfl rfl) | apply Trace.pu [_] (.loadLoc1 ty22 (.plain rfl) rfl rfl) | apply Trace.pu [] (.loadRp1 ty22 (.plain rfl) rfl) | apply Trace.pu [_] (.loadCol1 ty22 (.plain rfl) rfl rfl rfl (fun _ => by omega))
            apply Trace.pu [] (.fieldAddr fl34_0 (.plain rfl) rfl)
            first | apply Trace.pu [_] (.loadLoc1D ty3 (.plain rfl) rfl rfl) | apply Trace.pu [_] (.loadLoc1 ty3 (.plain rfl) rfl rfl) | apply Trace.pu [] (.loadRp1 ty3 (.plain rfl) rfl) | apply Trace.pu [_] (.loadCol1 ty3 (.plain rfl) rfl rfl rfl (fun _ => by omega))
            first | apply Trace.pu [] (.indexRows el22 (.plain rfl) (.plain rfl) (fun _ => ⟨by omega, by omega⟩)) | apply Trace.pu [] (.indexOwn el22 (.plain rfl) (.plain rfl) (fun _ => ⟨by omega, by omega⟩)) | apply Trace.pu [] (.indexSl el22 (.plain rfl) (.plain rfl) (fun _ => ⟨by omega, by omega⟩))
            first | apply Trace.pu [_] (.loadLoc1D ty3 (.plain rfl) rfl rfl) | apply Trace.pu [_] (.loadLoc1 ty3 (.plain rfl) rfl rfl) | apply Trace.pu [] (.loadRp1 ty3 (.plain rfl) rfl) | apply Trace.pu [_] (.loadCol1 ty3 (.plain rfl) rfl rfl rfl (fun _ => by omega))
            apply Trace.pu [] (.cmp (.plain rfl) (.plain rfl) rfl)
            apply Trace.pu [] (.move (.plain rfl))
            apply Trace.pg [] rfl (.fieldAddr fl28_1 (.plain rfl) rfl)
            first | apply Trace.pg [_] rfl (.loadLoc1D ty22 (.gd rfl (fun h => h)) rfl rfl) | apply Trace.pg [_] rfl (.loadLoc1 ty22 (.gd rfl (fun h => h)) rfl rfl) | apply Trace.pg [] rfl (.loadRp1 ty22 (.gd rfl (fun h => h)) rfl) | apply Trace.pg [_] rfl (.loadCol1 ty22 (.gd rfl (fun h => h)) rfl rfl rfl (fun _ => by omega))
            apply Trace.pg [] rfl (.move (.plain rfl))
            first | apply Trace.pg [] rfl (.indexRows el22 (.gd rfl (fun h => h)) (.gd rfl (fun h => h)) (fun _ => ⟨by omega, by omega⟩)) | apply Trace.pg [] rfl (.indexOwn el22 (.gd rfl (fun h => h)) (.gd rfl (fun h => h)) (fun _ => ⟨by omega, by omega⟩)) | apply Trace.pg [] rfl (.indexSl el22 (.gd rfl (fun h => h)) (.gd rfl (fun h => h)) (fun _ => ⟨by omega, by omega⟩))
            first | apply Trace.pg [_] rfl (.loadLoc1D ty3 (.gd rfl (fun h => h)) rfl rfl) | apply Trace.pg [_] rfl (.loadLoc1 ty3 (.gd rfl (fun h => h)) rfl rfl) | apply Trace.pg [] rfl (.loadRp1 ty3 (.gd rfl (fun h => h)) rfl) | apply Trace.pg [_] rfl (.loadCol1 ty3 (.gd rfl (fun h => h)) rfl rfl rfl (fun _ => by omega))
            apply Trace.pg [] rfl (.cmp (.gd rfl (fun h => h)) (.plain rfl) rfl)
            apply Trace.pu [] (.pick (.plain rfl) (.plain rfl) (.gd rfl (by simp)))
            apply Trace.pu [] (.move (.plain rfl))
            apply Trace.pg [] rfl (.fieldAddr fl28_0 (.plain rfl) rfl)
            first | apply Trace.pg [_] rfl (.loadLoc1D ty22 (.gd rfl (fun h => h)) rfl rfl) | apply Trace.pg [_] rfl (.loadLoc1 ty22 (.gd rfl (fun h => h)) rfl rfl) | apply Trace.pg [] rfl (.loadRp1 ty22 (.gd rfl (fun h => h)) rfl) | apply Trace.pg [_] rfl (.loadCol1 ty22 (.gd rfl (fun h => h)) rfl rfl rfl (fun _ => by omega))
            apply Trace.pg [] rfl (.fieldAddr fl34_1 (.plain rfl) rfl)
            first | apply Trace.pg [_] rfl (.loadLoc1D ty3 (.gd rfl (fun h => h)) rfl rfl) | apply Trace.pg [_] rfl (.loadLoc1 ty3 (.gd rfl (fun h => h)) rfl rfl) | apply Trace.pg [] rfl (.loadRp1 ty3 (.gd rfl (fun h => h)) rfl) | apply Trace.pg [_] rfl (.loadCol1 ty3 (.gd rfl (fun h => h)) rfl rfl rfl (fun _ => by omega))
            first | apply Trace.pg [] rfl (.indexRows el22 (.gd rfl (fun h => h)) (.gd rfl (fun h => h)) (fun _ => ⟨by omega, by omega⟩)) | apply Trace.pg [] rfl (.indexOwn el22 (.gd rfl (fun h => h)) (.gd rfl (fun h => h)) (fun _ => ⟨by omega, by omega⟩)) | apply Trace.pg [] rfl (.indexSl el22 (.gd rfl (fun h => h)) (.gd rfl (fun h => h)) (fun _ => ⟨by omega, by omega⟩))
            first | apply Trace.pg [_] rfl (.loadLoc1D ty3 (.gd rfl (fun h => h)) rfl rfl) | apply Trace.pg [_] rfl (.loadLoc1 ty3 (.gd rfl (fun h => h)) rfl rfl) | apply Trace.pg [] rfl (.loadRp1 ty3 (.gd rfl (fun h => h)) rfl) | apply Trace.pg [_] rfl (.loadCol1 ty3 (.gd rfl (fun h => h)) rfl rfl rfl (fun _ => by omega))
            apply Trace.pg [] rfl (.fieldAddr fl34_3 (.plain rfl) rfl)
            first | apply Trace.pg [_] rfl (.loadLoc1D ty3 (.gd rfl (fun h => h)) rfl rfl) | apply Trace.pg [_] rfl (.loadLoc1 ty3 (.gd rfl (fun h => h)) rfl rfl) | apply Trace.pg [] rfl (.loadRp1 ty3 (.gd rfl (fun h => h)) rfl) | apply Trace.pg [_] rfl (.loadCol1 ty3 (.gd rfl (fun h => h)) rfl rfl rfl (fun _ => by omega))
            apply Trace.pg [] rfl (.arith (.gd rfl (fun h => h)) (.gd rfl (fun h => h)) rfl (fun _ => bd64 (by omega)))
            apply Trace.pg [] rfl (.fieldAddr fl28_0 (.plain rfl) rfl)
            first | apply Trace.pg [_] rfl (.loadLoc1D ty22 (.gd rfl (fun h => h)) rfl rfl) | apply Trace.pg [_] rfl (.loadLoc1 ty22 (.gd rfl (fun h => h)) rfl rfl) | apply Trace.pg [] rfl (.loadRp1 ty22 (.gd rfl (fun h => h)) rfl) | apply Trace.pg [_] rfl (.loadCol1 ty22 (.gd rfl (fun h => h)) rfl rfl rfl (fun _ => by omega))
            apply Trace.pg [] rfl (.fieldAddr fl34_0 (.plain rfl) rfl)
            first | apply Trace.pg [_] rfl (.loadLoc1D ty3 (.gd rfl (fun h => h)) rfl rfl) | apply Trace.pg [_] rfl (.loadLoc1 ty3 (.gd rfl (fun h => h)) rfl rfl) | apply Trace.pg [] rfl (.loadRp1 ty3 (.gd rfl (fun h => h)) rfl) | apply Trace.pg [_] rfl (.loadCol1 ty3 (.gd rfl (fun h => h)) rfl rfl rfl (fun _ => by omega))
            first | apply Trace.pg [] rfl (.indexRows el22 (.gd rfl (fun h => h)) (.gd rfl (fun h => h)) (fun _ => ⟨by omega, by omega⟩)) | apply Trace.pg [] rfl (.indexOwn el22 (.gd rfl (fun h => h)) (.gd rfl (fun h => h)) (fun _ => ⟨by omega, by omega⟩)) | apply Trace.pg [] rfl (.indexSl el22 (.gd rfl (fun h => h)) (.gd rfl (fun h => h)) (fun _ => ⟨by omega, by omega⟩))
            first | apply Trace.pg [_] rfl (.loadLoc1D ty3 (.gd rfl (fun h => h)) rfl rfl) | apply Trace.pg [_] rfl (.loadLoc1 ty3 (.gd rfl (fun h => h)) rfl rfl) | apply Trace.pg [] rfl (.loadRp1 ty3 (.gd rfl (fun h => h)) rfl) | apply Trace.pg [_] rfl (.loadCol1 ty3 (.gd rfl (fun h => h)) rfl rfl rfl (fun _ => by omega))
            apply Trace.pg [] rfl (.fieldAddr fl25_0 (.plain rfl) rfl)
            first | apply Trace.pg [_] rfl (.loadLoc1D ty22 (.gd rfl (fun h => h)) rfl rfl) | apply Trace.pg [_] rfl (.loadLoc1 ty22 (.gd rfl (fun h => h)) rfl rfl) | apply Trace.pg [] rfl (.loadRp1 ty22 (.gd rfl (fun h => h)) rfl) | apply Trace.pg [_] rfl (.loadCol1 ty22 (.gd rfl (fun h => h)) rfl rfl rfl (fun _ => by omega))
            apply Trace.pg [] rfl (.fieldAddr fl34_0 (.plain rfl) rfl)
            first | apply Trace.pg [_] rfl (.loadLoc1D ty3 (.gd rfl (fun h => h)) rfl rfl) | apply Trace.pg [_] rfl (.loadLoc1 ty3 (.gd rfl (fun h => h)) rfl rfl) | apply Trace.pg [] rfl (.loadRp1 ty3 (.gd rfl (fun h => h)) rfl) | apply Trace.pg [_] rfl (.loadCol1 ty3 (.gd rfl (fun h => h)) rfl rfl rfl (fun _ => by omega))
            first | apply Trace.pg [] rfl (.indexRows el22 (.gd rfl (fun h => h)) (.gd rfl (fun h => h)) (fun _ => ⟨by omega, by omega⟩)) | apply Trace.pg [] rfl (.indexOwn el22 (.gd rfl (fun h => h)) (.gd rfl (fun h => h)) (fun _ => ⟨by omega, by omega⟩)) | apply Trace.pg [] rfl (.indexSl el22 (.gd rfl (fun h => h)) (.gd rfl (fun h => h)) (fun _ => ⟨by omega, by omega⟩))
            first | apply Trace.pg [_] rfl (.loadLoc1D ty3 (.gd rfl (fun h => h)) rfl rfl) | apply Trace.pg [_] rfl (.loadLoc1 ty3 (.gd rfl (fun h => h)) rfl rfl) | apply Trace.pg [] rfl (.loadRp1 ty3 (.gd rfl (fun h => h)) rfl) | apply Trace.pg [_] rfl (.loadCol1 ty3 (.gd rfl (fun h => h)) rfl rfl rfl (fun _ => by omega))
            apply Trace.pg [] rfl (.arith (.gd rfl (fun h => h)) (.gd rfl (fun h => h)) rfl (fun _ => bd64 (by omega)))
            apply Trace.pg [] rfl (.fieldAddr fl28_1 (.plain rfl) rfl)
            first | apply Trace.pg [_] rfl (.loadLoc1D ty22 (.gd rfl (fun h => h)) rfl rfl) | apply Trace.pg [_] rfl (.loadLoc1 ty22 (.gd rfl (fun h => h)) rfl rfl) | apply Trace.pg [] rfl (.loadRp1 ty22 (.gd rfl (fun h => h)) rfl) | apply Trace.pg [_] rfl (.loadCol1 ty22 (.gd rfl (fun h => h)) rfl rfl rfl (fun _ => by omega))
            apply Trace.pg [] rfl (.move (.plain rfl))
            first | apply Trace.pg [] rfl (.indexRows el22 (.gd rfl (fun h => h)) (.gd rfl (fun h => h)) (fun _ => ⟨by omega, by omega⟩)) | apply Trace.pg [] rfl (.indexOwn el22 (.gd rfl (fun h => h)) (.gd rfl (fun h => h)) (fun _ => ⟨by omega, by omega⟩)) | apply Trace.pg [] rfl (.indexSl el22 (.gd rfl (fun h => h)) (.gd rfl (fun h => h)) (fun _ => ⟨by omega, by omega⟩))
            first | apply Trace.pg [_] rfl (.loadLoc1D ty3 (.gd rfl (fun h => h)) rfl rfl) | apply Trace.pg [_] rfl (.loadLoc1 ty3 (.gd rfl (fun h => h)) rfl rfl) | apply Trace.pg [] rfl (.loadRp1 ty3 (.gd rfl (fun h => h)) rfl) | apply Trace.pg [_] rfl (.loadCol1 ty3 (.gd rfl (fun h => h)) rfl rfl rfl (fun _ => by omega))
            apply Trace.pg [] rfl (.arith (.gd rfl (fun h => h)) (.gd rfl (fun h => h)) rfl (fun _ => bd64 (by omega)))
            apply Trace.pg [] rfl (.cmp (.gd rfl (fun h => h)) (.gd rfl (fun h => h)) rfl)
            apply Trace.pu [] (.pick (.plain rfl) (.plain rfl) (.gd rfl (by simp)))
            exact .nil _
          · rfl
          · exact keepOK_of hk hn rfl
          refine WPA.cond rfl (fun hc5 => ?_) (fun hc5 => ?_)
          · exfalso
            have h9 : (bif (bif decide (g.best.getD e.f.toNat 0 < 0) then true else decide ((g.delTo g.best g.es.length).getD i 0 < 0)) then true else !decide (g.best.getD e.t.toNat 0 + e.d = g.best.getD e.f.toNat 0 + g.lat.getD e.f.toNat 0 + (g.delTo g.best g.es.length).getD i 0)) = true := hc5
            rw [decide_eq_false (by omega), decide_eq_false (by omega), decide_eq_true (by omega)] at h9
            cases h9
          · apply WPA.skip
            apply WPA.draw mixed
            · first | apply Trace.pu [_] (.loadLoc1D ty3 (.plain rfl) rfl rfl) | apply Trace.pu [_] (.loadLoc1 ty3 (.plain rfl) rfl rfl) | apply Trace.pu [] (.loadRp1 ty3 (.plain rfl) rfl) | apply Trace.pu [_] (.loadCol1 ty3 (.plain rfl) rfl rfl rfl (fun _ => by omega))
              apply Trace.pu [] (.fieldAddr fl34_2 (.plain rfl) rfl)
              first | apply Trace.pu [_] (.loadLoc1D ty3 (.plain rfl) rfl rfl) | apply Trace.pu [_] (.loadLoc1 ty3 (.plain rfl) rfl rfl) | apply Trace.pu [] (.loadRp1 ty3 (.plain rfl) rfl) | apply Trace.pu [_] (.loadCol1 ty3 (.plain rfl) rfl rfl rfl (fun _ => by omega))
              apply Trace.pu [] (.fieldAddr fl28_1 (.plain rfl) rfl)
              first | apply Trace.pu [_] (.loadLoc1D ty22 (.plain rfl) rfl rfl) | apply Trace.pu [_] (.loadLoc1 ty22 (.plain rfl) rfl rfl) | apply Trace.pu [] (.loadRp1 ty22 (.plain rfl) rfl) | apply Trace.pu [_] (.loadCol1 ty22 (.plain rfl) rfl rfl rfl (fun _ => by omega))
              apply Trace.pu [] (.move (.plain rfl))
              first | apply Trace.pu [] (.indexRows el22 (.plain rfl) (.plain rfl) (fun _ => ⟨by omega, by omega⟩)) | apply Trace.pu [] (.indexOwn el22 (.plain rfl) (.plain rfl) (fun _ => ⟨by omega, by omega⟩)) | apply Trace.pu [] (.indexSl el22 (.plain rfl) (.plain rfl) (fun _ => ⟨by omega, by omega⟩))
              first | apply Trace.pu [_] (.loadLoc1D ty3 (.plain rfl) rfl rfl) | apply Trace.pu [_] (.loadLoc1 ty3 (.plain rfl) rfl rfl) | apply Trace.pu [] (.loadRp1 ty3 (.plain rfl) rfl) | apply Trace.pu [_] (.loadCol1 ty3 (.plain rfl) rfl rfl rfl (fun _ => by omega))
              apply Trace.pu [] (.arith (.plain rfl) (.plain rfl) rfl (fun _ => bd64 (by omega)))
              apply Trace.pu [] (.arith (.plain rfl) (.plain rfl) rfl (fun _ => bd64 (by omega)))
              first | apply Trace.storeD ty3 (.plain rfl) (.plain rfl) rfl rfl rfl (by simp [AV.oneB, single]) (Nat.le_of_ble_eq_true rfl) rfl | apply Trace.storeDA ty3 (.plain rfl) (.plain rfl) rfl rfl rfl (by simp [AV.oneB, single]) (Nat.le_of_ble_eq_true rfl) rfl | apply Trace.storeLoc ty3 (.plain rfl) (.plain rfl) rfl rfl rfl (by simp [AV.oneB, single]) (Nat.le_of_ble_eq_true rfl) rfl | apply Trace.storeRow ty3 (.plain rfl) (.plain rfl) rfl rfl rfl rfl (by decide) (by simp [AV.oneB, single]) rfl (by omega)
              exact .nil _
            · rfl
            · exact keepOK_of hk hn rfl
            apply WPA.region
            · apply Trace.pu [] (.arith (.plain rfl) (.plain rfl) rfl (fun _ => bd64 (by omega)))
              apply Trace.pu [] (.move (.plain rfl))
              exact .nil _
            · exact keepOK_of hk hn rfl
            exact ⟨i + 1, by omega, by omega, St.le_cons rfl (St.le_cons rfl (St.le_cons rfl (St.le_cons rfl (St.le_cons rfl (St.le_cons rfl (St.le_cons rfl (St.le_cons rfl (St.le_cons (slI (by omega)) (St.le_cons rfl (St.le_cons rfl (St.le_cons (datI (by omega)) (St.le_nil _))))))))))))⟩
        · have him : i = g.es.length := by
            have : ¬ ((i : Int) < g.es.length) := by simpa using hc4
            omega
          subst him
          refine WPA.weaken (T := [(sl 1, .av (.d (intsD at_))), (sl 2, .av (.d (intsD flow))), (sl 3, .av (.loc 3 0)), (sl 7, .av (.loc 7 0)), (sl 10, .av (iv .i64 (g.lat.length))), (sl 11, .av (.loc 11 0)), (bk 3, .blk (.data g.ds)), (bk 7, .blk (.data (g.planOf g.best).ds)), (bk 11, .blk (.data [.v (.int .i64 (g.memTo g.best g.es.length))]))]) ?_ (St.le_cons rfl (St.le_cons rfl (St.le_cons rfl (St.le_cons rfl (St.le_cons rfl (St.le_cons rfl (St.le_cons rfl (St.le_cons rfl (St.le_cons rfl (St.le_nil _))))))))))
          apply WPA.exit
          apply WPA.seq
          apply WPA.region
          · first | apply Trace.pu [_] (.loadAllD ty25 (.plain rfl) rfl (by simp)) | apply Trace.pu [_] (.loadLocD ty25 (.plain rfl) rfl (fun _ => by simp)) | apply Trace.pu [_] (.loadLoc ty25 (.plain rfl) rfl (fun _ => Nat.le_of_ble_eq_true rfl)) | apply Trace.pu [] (.loadRp ty25 (.plain rfl) (fun _ => by decide)) | apply Trace.pu [] (.loadRp ty25 (.plain rfl) (fun _ => Nat.le_of_ble_eq_true rfl)) | apply Trace.pu [_] (.loadCol ty25 (.plain rfl) rfl rfl (fun _ => by decide) (fun _ => by omega)) | apply Trace.pu [_] (.loadArr ty25 (.plain rfl) rfl)
            first | apply Trace.pu [_] (.loadAllD ty28 (.plain rfl) rfl (by simp)) | apply Trace.pu [_] (.loadLocD ty28 (.plain rfl) rfl (fun _ => by simp)) | apply Trace.pu [_] (.loadLoc ty28 (.plain rfl) rfl (fun _ => Nat.le_of_ble_eq_true rfl)) | apply Trace.pu [] (.loadRp ty28 (.plain rfl) (fun _ => by decide)) | apply Trace.pu [] (.loadRp ty28 (.plain rfl) (fun _ => Nat.le_of_ble_eq_true rfl)) | apply Trace.pu [_] (.loadCol ty28 (.plain rfl) rfl rfl (fun _ => by decide) (fun _ => by omega)) | apply Trace.pu [_] (.loadArr ty28 (.plain rfl) rfl)
            apply Trace.ct (callArgs0 (.cons (.plain rfl) (.cons (.plain rfl) .nil))) (mcN hz (p := g.planOf g.best) hbz (fun _ => ht) (certMake_best hC ht)) en14
            apply Trace.pu [] (.move (.plain rfl))
            apply Trace.pu [] (.extract (.plain rfl) rfl)
            apply Trace.pu [] (.extract (.plain rfl) rfl)
            apply Trace.pu [] (.assign (.plain rfl))
            apply Trace.pu [] (.assign (.plain rfl))
            exact .nil _
          · exact keepOK_of hk hn rfl
          apply WPA.seq
          apply WPA.region
          · first | apply Trace.pu [_] (.loadAllD ty25 (.plain rfl) rfl (by simp)) | apply Trace.pu [_] (.loadLocD ty25 (.plain rfl) rfl (fun _ => by simp)) | apply Trace.pu [_] (.loadLoc ty25 (.plain rfl) rfl (fun _ => Nat.le_of_ble_eq_true rfl)) | apply Trace.pu [] (.loadRp ty25 (.plain rfl) (fun _ => by decide)) | apply Trace.pu [] (.loadRp ty25 (.plain rfl) (fun _ => Nat.le_of_ble_eq_true rfl)) | apply Trace.pu [_] (.loadCol ty25 (.plain rfl) rfl rfl (fun _ => by decide) (fun _ => by omega)) | apply Trace.pu [_] (.loadArr ty25 (.plain rfl) rfl)
            first | apply Trace.pu [_] (.loadAllD ty28 (.plain rfl) rfl (by simp)) | apply Trace.pu [_] (.loadLocD ty28 (.plain rfl) rfl (fun _ => by simp)) | apply Trace.pu [_] (.loadLoc ty28 (.plain rfl) rfl (fun _ => Nat.le_of_ble_eq_true rfl)) | apply Trace.pu [] (.loadRp ty28 (.plain rfl) (fun _ => by decide)) | apply Trace.pu [] (.loadRp ty28 (.plain rfl) (fun _ => Nat.le_of_ble_eq_true rfl)) | apply Trace.pu [_] (.loadCol ty28 (.plain rfl) rfl rfl (fun _ => by decide) (fun _ => by omega)) | apply Trace.pu [_] (.loadArr ty28 (.plain rfl) rfl)
            apply Trace.pu [] (.move (.plain rfl))
            apply Trace.ct (callArgs0 (.cons (.plain rfl) (.cons (.plain rfl) (.cons (.plain rfl) .nil)))) (ckN hz hbz (by omega) (certP_best hC ht)) en15
            apply Trace.pu [] (.move (.plain rfl))
            apply Trace.pu [] (.extract (.plain rfl) rfl)
            apply Trace.pu [] (.extract (.plain rfl) rfl)
            apply Trace.pu [] (.assign (.plain rfl))
            apply Trace.pu [] (.assign (.plain rfl))
            exact .nil _
          · exact keepOK_of hk hn rfl
          apply WPA.seq
          apply WPA.region
          · first | apply Trace.pu [_] (.loadAllD ty25 (.plain rfl) rfl (by simp)) | apply Trace.pu [_] (.loadLocD ty25 (.plain rfl) rfl (fun _ => by simp)) | apply Trace.pu [_] (.loadLoc ty25 (.plain rfl) rfl (fun _ => Nat.le_of_ble_eq_true rfl)) | apply Trace.pu [] (.loadRp ty25 (.plain rfl) (fun _ => by decide)) | apply Trace.pu [] (.loadRp ty25 (.plain rfl) (fun _ => Nat.le_of_ble_eq_true rfl)) | apply Trace.pu [_] (.loadCol ty25 (.plain rfl) rfl rfl (fun _ => by decide) (fun _ => by omega)) | apply Trace.pu [_] (.loadArr ty25 (.plain rfl) rfl)
            apply Trace.pu [] (.move (.plain rfl))
            apply Trace.ct (callArgs0 (.cons (.plain rfl) (.cons (.plain rfl) .nil))) (boN hz (fl := g.certF (fn g.best)) (by omega) (best_bound hC ht)) en16
            apply Trace.pu [] (.move (.plain rfl))
            apply Trace.pu [] (.extract (.plain rfl) rfl)
            apply Trace.pu [] (.extract (.plain rfl) rfl)
            apply Trace.pu [] (.assign (.plain rfl))
            apply Trace.pu [] (.assign (.plain rfl))
            exact .nil _
          · exact keepOK_of hk hn rfl
          apply WPA.seq
          apply WPA.seq
          apply WPA.region
          · first | apply Trace.pu [_] (.loadLoc1D ty3 (.plain rfl) rfl rfl) | apply Trace.pu [_] (.loadLoc1 ty3 (.plain rfl) rfl rfl) | apply Trace.pu [] (.loadRp1 ty3 (.plain rfl) rfl) | apply Trace.pu [_] (.loadCol1 ty3 (.plain rfl) rfl rfl rfl (fun _ => by omega))
            apply Trace.pu [] (.fieldAddr fl28_2 (.plain rfl) rfl)
            first | apply Trace.pu [_] (.loadLoc1D ty3 (.plain rfl) rfl rfl) | apply Trace.pu [_] (.loadLoc1 ty3 (.plain rfl) rfl rfl) | apply Trace.pu [] (.loadRp1 ty3 (.plain rfl) rfl) | apply Trace.pu [_] (.loadCol1 ty3 (.plain rfl) rfl rfl rfl (fun _ => by omega))
            apply Trace.pu [] (.cmp (.plain rfl) (.plain rfl) rfl)
            apply Trace.pu [] (.move (.plain rfl))
            apply Trace.pg [] rfl (.move (.plain rfl))
            apply Trace.pg [] rfl (.cmp (.gd rfl (fun h => h)) (.plain rfl) rfl)
            apply Trace.pu [] (.pick (.plain rfl) (.plain rfl) (.gd rfl (by simp)))
            apply Trace.pu [] (.move (.plain rfl))
            apply Trace.pg [] rfl (.move (.plain rfl))
            apply Trace.pg [] rfl (.cmp (.gd rfl (fun h => h)) (.plain rfl) rfl)
            apply Trace.pu [] (.pick (.plain rfl) (.plain rfl) (.gd rfl (by simp)))
            apply Trace.pu [] (.move (.plain rfl))
            apply Trace.pg [] rfl (.move (.plain rfl))
            apply Trace.pg [] rfl (.not (.gd rfl (fun h => h)))
            apply Trace.pu [] (.pick (.plain rfl) (.plain rfl) (.gd rfl (by simp)))
            apply Trace.pu [] (.move (.plain rfl))
            apply Trace.pg [] rfl (.move (.plain rfl))
            apply Trace.pg [] rfl (.cmp (.gd rfl (fun h => h)) (.plain rfl) rfl)
            apply Trace.pu [] (.pick (.plain rfl) (.plain rfl) (.gd rfl (by simp)))
            apply Trace.pu [] (.move (.plain rfl))
            apply Trace.pg [] rfl (.move (.plain rfl))
            first | apply Trace.pg [_] rfl (.loadLoc1D ty3 (.plain rfl) rfl rfl) | apply Trace.pg [_] rfl (.loadLoc1 ty3 (.plain rfl) rfl rfl) | apply Trace.pg [] rfl (.loadRp1 ty3 (.plain rfl) rfl) | apply Trace.pg [_] rfl (.loadCol1 ty3 (.plain rfl) rfl rfl rfl (fun _ => by omega))
            apply Trace.pg [] rfl (.cmp (.gd rfl (fun h => h)) (.gd rfl (fun h => h)) rfl)
            apply Trace.pu [] (.pick (.plain rfl) (.plain rfl) (.gd rfl (by simp)))
            exact .nil _
          · exact keepOK_of hk hn rfl
          refine WPA.cond rfl (fun hc6 => ?_) (fun hc6 => ?_)
          · exfalso
            have h9 : (bif (bif (bif (bif (bif !decide (g.memTo g.best g.es.length = g.memTo g.best g.es.length) then true else false) then true else false) then true else false) then true else false) then true else !decide (g.memTo g.best g.es.length = g.memTo g.best g.es.length)) = true := hc6
            rw [decide_eq_true (rfl : g.memTo g.best g.es.length = g.memTo g.best g.es.length)] at h9
            cases h9
          · apply WPA.skip
            apply WPA.seq
            apply WPA.seq
            apply WPA.region
            · first | apply Trace.pu [_] (.loadAllD ty25 (.plain rfl) rfl (by simp)) | apply Trace.pu [_] (.loadLocD ty25 (.plain rfl) rfl (fun _ => by simp)) | apply Trace.pu [_] (.loadLoc ty25 (.plain rfl) rfl (fun _ => Nat.le_of_ble_eq_true rfl)) | apply Trace.pu [] (.loadRp ty25 (.plain rfl) (fun _ => by decide)) | apply Trace.pu [] (.loadRp ty25 (.plain rfl) (fun _ => Nat.le_of_ble_eq_true rfl)) | apply Trace.pu [_] (.loadCol ty25 (.plain rfl) rfl rfl (fun _ => by decide) (fun _ => by omega)) | apply Trace.pu [_] (.loadArr ty25 (.plain rfl) rfl)
              apply Trace.pu [] (.move (.plain rfl))
              apply Trace.ct (callArgs0 (.cons (.plain rfl) (.cons (.plain rfl) .nil))) (boN hz (fl := flow) (by omega) (a := (g.boundP flow).1) (c := (g.boundP flow).2) rfl) en16
              apply Trace.pu [] (.move (.plain rfl))
              apply Trace.pu [] (.extract (.plain rfl) rfl)
              apply Trace.pu [] (.extract (.plain rfl) rfl)
              apply Trace.pu [] (.assign (.plain rfl))
              apply Trace.pu [] (.assign (.plain rfl))
              exact .nil _
            · exact keepOK_of hk hn rfl
            apply WPA.seq
            apply WPA.region
            · apply Trace.pu [] (.move (.plain rfl))
              apply Trace.pu [] (.cmp (.plain rfl) (.plain rfl) rfl)
              apply Trace.pu [] (.move (.plain rfl))
              apply Trace.pg [] rfl (.move (.plain rfl))
              first | apply Trace.pg [_] rfl (.loadLoc1D ty3 (.plain rfl) rfl rfl) | apply Trace.pg [_] rfl (.loadLoc1 ty3 (.plain rfl) rfl rfl) | apply Trace.pg [] rfl (.loadRp1 ty3 (.plain rfl) rfl) | apply Trace.pg [_] rfl (.loadCol1 ty3 (.plain rfl) rfl rfl rfl (fun _ => by omega))
              apply Trace.pg [] rfl (.cmp (.gd rfl (fun h => h)) (.gd rfl (fun h => h)) rfl)
              apply Trace.pu [] (.pick (.plain rfl) (.gd rfl (by simp)) (.plain rfl))
              exact .nil _
            · exact keepOK_of hk hn rfl
            refine WPA.cond rfl (fun hc7 => ?_) (fun hc7 => ?_)
            · exfalso
              have h9 : (bif decide ((g.boundP flow).2 = 0) then decide (g.memTo g.best g.es.length < (g.boundP flow).1) else false) = true := hc7
              rw [bif_and, Bool.and_eq_true, decide_eq_true_eq, decide_eq_true_eq] at h9
              obtain ⟨_, hB, hbe⟩ := bound_ok h9.1
              have h8 := h9.2
              rw [hbe] at h8
              have h8 : g.memTo g.best g.es.length < g.bnd flow g.es.length := h8
              have := bnd_mem hok hB hPb
              omega
            · apply WPA.skip
              apply WPA.seq
              apply WPA.region
              · apply Trace.pu [] (.funcL (.cons (.plain rfl) (.cons (.plain rfl) (.cons (.plain rfl) .nil))))
                apply Trace.pu [] (.assign (.plain rfl))
                exact .nil _
              · exact keepOK_of hk hn rfl
              apply WPA.seq
              apply WPA.seq
              apply WPA.region
              · apply Trace.pu [] (.move (.plain rfl))
                apply Trace.pu [] (.move (.plain rfl))
                apply Trace.cb [] [bk 3, bk 11, bk 7] (callArgs (.plain rfl) (.cons (.plain rfl) .nil)) (woD hz hC ht at_ (by omega)) en17 (.cons rfl (.cons rfl (.cons rfl (.nil)))) rfl rfl
                apply Trace.pu [] (.not (.plain rfl))
                exact .nil _
              · exact keepOK_of hk hn rfl
              refine WPA.cond rfl (fun hc8 => ?_) (fun hc8 => ?_)
              · cases hc8
              · apply WPA.skip
                apply WPA.seq
                apply WPA.seq
                apply WPA.region
                · apply Trace.pu [] (.move (.plain rfl))
                  apply Trace.pu [] (.cmp (.plain rfl) (.plain rfl) rfl)
                  exact .nil _
                · exact keepOK_of hk hn rfl
                refine WPA.cond rfl (fun hc9 => ?_) (fun hc9 => ?_)
                · apply WPA.seq
                  apply WPA.region
                  · apply Trace.pu [] (.assign (.plain rfl))
                    exact .nil _
                  · exact keepOK_of hk hn rfl
                  apply WPA.ret
                  refine ⟨.inr rfl, ⟨_, (.cons (.tmp rfl) .nil), ?_⟩, by simp [St.get]⟩
                  rfl
                · apply WPA.skip
                  apply WPA.seq
                  apply WPA.region
                  · apply Trace.pu [] (.move (.plain rfl))
                    apply Trace.makeSlice 222 [] so22 by3 zo3 rfl (by decide) (.plain rfl) (.plain rfl) ⟨by omega, by omega⟩ (by omega) (by omega) rfl rfl
                    apply Trace.pu [] (.assign (.plain rfl))
                    exact .nil _
                  · exact keepOK_of hk hn rfl
                  apply WPA.block
                  refine WPA.loop (σ := List Int) (fun l => [(sl 10, .av (iv .i64 (g.lat.length))), (sl 22, .av (.fn 17 [.loc 3 0, .loc 11 0, .loc 7 0])), (sl 23, .av (.own 222 g.lat.length)), (bk 3, .blk (.data g.ds)), (bk 7, .blk (.data (g.planOf g.best).ds)), (bk 11, .blk (.data [.v (.int .i64 (g.memTo g.best g.es.length))])), (bk 222, .blk (.app 1 g.lat.length [.ints .i64 (l)]))]) (fun l => l.length = g.lat.length ∧ ∀ j, j < g.lat.length → 0 ≤ fn l j ∧ fn l j ≤ 5) (fun l => (6 ^ g.lat.length - W6 g.lat.length l).toNat) (List.replicate g.lat.length 0) (St.le_cons rfl (St.le_cons rfl (St.le_cons rfl (St.le_cons rfl (St.le_cons rfl (St.le_cons rfl (St.le_cons rfl (St.le_nil _)))))))) ⟨by simp, fun j hj => by rw [rep0]; omega⟩ fun l hl => ?_
                  obtain ⟨hll, hl5⟩ := hl
                  have hll : l.length = g.lat.length := hll
                  have hl5 : ∀ j, j < g.lat.length → 0 ≤ fn l j ∧ fn l j ≤ 5 := hl5
                  apply WPA.block
                  apply WPA.seq
                  apply WPA.seq
                  rcases Nat.eq_zero_or_pos g.lat.length with hn0 | hn0
                  · obtain rfl : l = [] := List.eq_nil_of_length_eq_zero (by omega)
                    refine WPA.ghost (Ghost.freezeAs (t := 23) (l := 222) (g := fun k => [Col.at (.ints .i64 []) k]) rfl rfl (fun k hk => rfl)) ?_
                    refine WPA.weaken (T := [(sl 10, .av (iv .i64 (g.lat.length))), (sl 22, .av (.fn 17 [.loc 3 0, .loc 11 0, .loc 7 0])), (sl 23, .av (.d (intsD []))), (bk 3, .blk (.data g.ds)), (bk 7, .blk (.data (g.planOf g.best).ds)), (bk 11, .blk (.data [.v (.int .i64 (g.memTo g.best g.es.length))]))]) ?_ (St.le_cons rfl (St.le_cons rfl (St.le_cons (d_eq (by rw [hn0]; rfl)) (St.le_cons rfl (St.le_cons rfl (St.le_cons rfl (St.le_nil _)))))))
                    apply WPA.region
                    · apply Trace.pu [] (.move (.plain rfl))
                      apply Trace.pu [] (.move (.plain rfl))
                      apply Trace.cb [] [bk 3, bk 11, bk 7] (callArgs (.plain rfl) (.cons (.plain rfl) .nil)) (woD hz hC ht [] (by simp)) en17 (.cons rfl (.cons rfl (.cons rfl (.nil)))) rfl rfl
                      apply Trace.pu [] (.not (.plain rfl))
                      exact .nil _
                    · exact keepOK_of hk hn rfl
                    refine WPA.cond rfl (fun hc10 => ?_) (fun hc10 => ?_)
                    · cases hc10
                    · apply WPA.skip
                      apply WPA.seq
                      apply WPA.region
                      · apply Trace.pu [] (.assign (.plain rfl))
                        exact .nil _
                      · exact keepOK_of hk hn rfl
                      apply WPA.seq
                      apply WPA.block
                      refine WPA.loop (σ := Nat) (fun v => [(sl 10, .av (iv .i64 (g.lat.length))), (sl 22, .av (.fn 17 [.loc 3 0, .loc 11 0, .loc 7 0])), (sl 23, .av (.d (intsD []))), (sl 24, .av (iv .i64 (v))), (bk 3, .blk (.data g.ds)), (bk 7, .blk (.data (g.planOf g.best).ds)), (bk 11, .blk (.data [.v (.int .i64 (g.memTo g.best g.es.length))]))]) (fun v => v ≤ g.lat.length) (fun v => g.lat.length - v) 0
                        (St.le_cons rfl (St.le_cons rfl (St.le_cons rfl (St.le_cons rfl (St.le_cons rfl (St.le_cons rfl (St.le_cons rfl (St.le_nil _)))))))) (Nat.zero_le _) fun v hv => ?_
                      apply WPA.seq
                      apply WPA.seq
                      rcases Decidable.em True with htt | htt
                      · apply WPA.region
                        · apply Trace.pu [] (.move (.plain rfl))
                          apply Trace.pu [] (.move (.plain rfl))
                          apply Trace.pu [] ((Pure.cmp (.plain rfl) (.plain rfl) rfl).to (y := bv false) (congrArg bv (decide_eq_false (by omega))))
                          apply Trace.pu [] (.move (.plain rfl))
                          apply Trace.pg [] rfl (Pure.never (x := bv true) (by intro d h; cases h))
                          apply Trace.pg [] rfl (Pure.never (x := bv true) (by intro d h; cases h))
                          apply Trace.pg [] rfl (Pure.never (x := bv true) (by intro d h; cases h))
                          apply Trace.pg [] rfl (Pure.never (x := bv true) (by intro d h; cases h))
                          apply Trace.pg [] rfl (Pure.never (x := bv true) (by intro d h; cases h))
                          apply Trace.pu [] (.pick (.plain rfl) (.gd rfl (by simp)) (.plain rfl))
                          exact .nil _
                        · exact keepOK_of hk hn rfl
                        refine WPA.cond rfl (fun hc11 => ?_) (fun hc11 => ?_)
                        · cases hc11
                        · apply WPA.exit
                          apply WPA.seq
                          apply WPA.seq
                          apply WPA.region
                          · apply Trace.pu [] (.move (.plain rfl))
                            apply Trace.pu [] (.move (.plain rfl))
                            apply Trace.pu [] (.cmp (.plain rfl) (.plain rfl) rfl)
                            exact .nil _
                          · exact keepOK_of hk hn rfl
                          refine WPA.cond rfl (fun hc12 => ?_) (fun hc12 => ?_)
                          · apply WPA.seq
                            apply WPA.region
                            · apply Trace.pu [] (.assign (.plain rfl))
                              exact .nil _
                            · exact keepOK_of hk hn rfl
                            apply WPA.ret
                            refine ⟨.inr rfl, ⟨_, (.cons (.tmp rfl) .nil), ?_⟩, by simp [St.get]⟩
                            rfl
                          · exfalso
                            have : ¬ ((v : Int) = g.lat.length) := of_decide_eq_false hc12
                            omega
                      · exact absurd trivial htt
                  · apply WPA.region
                    · apply Trace.pu [] (.move (.plain rfl))
                      apply Trace.pu [] (.move (.plain rfl))
                      apply Trace.cb [] [bk 222, bk 3, bk 11, bk 7] (callArgs (.plain rfl) (.cons (.plain rfl) .nil)) (woO hz hC ht l hll rfl hn0) en17 (.cons rfl (.cons rfl (.cons rfl (.cons rfl (.nil))))) rfl rfl
                      apply Trace.pu [] (.not (.plain rfl))
                      exact .nil _
                    · exact keepOK_of hk hn rfl
                    refine WPA.cond rfl (fun hc13 => ?_) (fun hc13 => ?_)
                    · cases hc13
                    · apply WPA.skip
                      apply WPA.seq
                      apply WPA.region
                      · apply Trace.pu [] (.assign (.plain rfl))
                        exact .nil _
                      · exact keepOK_of hk hn rfl
                      apply WPA.seq
                      apply WPA.block
                      refine WPA.loop (σ := Nat × List Int) (fun y => [(sl 10, .av (iv .i64 (g.lat.length))), (sl 22, .av (.fn 17 [.loc 3 0, .loc 11 0, .loc 7 0])), (sl 23, .av (.own 222 g.lat.length)), (sl 24, .av (iv .i64 (y.1))), (bk 3, .blk (.data g.ds)), (bk 7, .blk (.data (g.planOf g.best).ds)), (bk 11, .blk (.data [.v (.int .i64 (g.memTo g.best g.es.length))])), (bk 222, .blk (.app 1 g.lat.length [.ints .i64 (y.2)]))]) (fun y => y.1 ≤ g.lat.length ∧ y.2.length = g.lat.length ∧ (∀ j, j < g.lat.length → 0 ≤ fn y.2 j ∧ fn y.2 j ≤ 5) ∧ W6 g.lat.length y.2 = W6 g.lat.length l - 6 ^ y.1 + 1) (fun y => g.lat.length - y.1) (0, l) (St.le_cons rfl (St.le_cons rfl (St.le_cons rfl (St.le_cons rfl (St.le_cons rfl (St.le_cons rfl (St.le_cons rfl (St.le_cons rfl (St.le_nil _))))))))) ⟨Nat.zero_le _, hll, hl5, by show W6 g.lat.length l = W6 g.lat.length l - 6 ^ 0 + 1; simp⟩ fun y hy => ?_
                      obtain ⟨v, q⟩ := y
                      obtain ⟨hv, hql, hq5, hW⟩ := hy
                      have hv : v ≤ g.lat.length := hv
                      have hql : q.length = g.lat.length := hql
                      have hq5 : ∀ j, j < g.lat.length → 0 ≤ fn q j ∧ fn q j ≤ 5 := hq5
                      have hW : W6 g.lat.length q = W6 g.lat.length l - 6 ^ v + 1 := hW
                      apply WPA.seq
                      apply WPA.seq
                      rcases Nat.lt_or_ge v g.lat.length with hvn | hvn
                      · apply WPA.region
                        · apply Trace.pu [] (.move (.plain rfl))
                          apply Trace.pu [] (.move (.plain rfl))
                          apply Trace.pu [] ((Pure.cmp (.plain rfl) (.plain rfl) rfl).to (y := bv true) (congrArg bv (decide_eq_true (by omega))))
                          apply Trace.pu [] (.move (.plain rfl))
                          apply Trace.pg [] rfl (.move (.plain rfl))
                          apply Trace.pg [] rfl (.move (.plain rfl))
                          first | apply Trace.pg [] rfl (.indexRows el22 (.gd rfl (fun h => h)) (.gd rfl (fun h => h)) (fun _ => ⟨by omega, by omega⟩)) | apply Trace.pg [] rfl (.indexOwn el22 (.gd rfl (fun h => h)) (.gd rfl (fun h => h)) (fun _ => ⟨by omega, by omega⟩)) | apply Trace.pg [] rfl (.indexSl el22 (.gd rfl (fun h => h)) (.gd rfl (fun h => h)) (fun _ => ⟨by omega, by omega⟩))
                          first | apply Trace.pg [_] rfl (.loadLoc1D ty3 (.gd rfl (fun h => h)) rfl rfl) | apply Trace.pg [_] rfl (.loadLoc1 ty3 (.gd rfl (fun h => h)) rfl rfl) | apply Trace.pg [] rfl (.loadRp1 ty3 (.gd rfl (fun h => h)) rfl) | apply Trace.pg [_] rfl (.loadCol1 ty3 (.gd rfl (fun h => h)) rfl rfl rfl (fun _ => by omega))
                          apply Trace.pg [] rfl (.cmp (.gd rfl (fun h => h)) (.plain rfl) rfl)
                          apply Trace.pu [] (.pick (.plain rfl) (.gd rfl (by simp)) (.plain rfl))
                          exact .nil _
                        · exact keepOK_of hk hn rfl
                        refine WPA.cond rfl (fun hc14 => ?_) (fun hc14 => ?_)
                        · have hv5 : fn q v = 5 := of_decide_eq_true hc14
                          have hWs := W6_set (x := 0) hql hvn
                          rw [hv5, hW] at hWs
                          have hps : (6 : Int) ^ (v + 1) = 6 ^ v * 6 := Int.pow_succ _ _
                          apply WPA.skip
                          apply WPA.block
                          apply WPA.seq
                          apply WPA.region
                          · apply Trace.pu [] (.move (.plain rfl))
                            apply Trace.pu [] (.move (.plain rfl))
                            first | apply Trace.pu [] (.indexRows el22 (.plain rfl) (.plain rfl) (fun _ => ⟨by omega, by omega⟩)) | apply Trace.pu [] (.indexOwn el22 (.plain rfl) (.plain rfl) (fun _ => ⟨by omega, by omega⟩)) | apply Trace.pu [] (.indexSl el22 (.plain rfl) (.plain rfl) (fun _ => ⟨by omega, by omega⟩))
                            first | apply Trace.storeD ty3 (.plain rfl) (.plain rfl) rfl rfl rfl (by simp [AV.oneB, single]) (Nat.le_of_ble_eq_true rfl) rfl | apply Trace.storeDA ty3 (.plain rfl) (.plain rfl) rfl rfl rfl (by simp [AV.oneB, single]) (Nat.le_of_ble_eq_true rfl) rfl | apply Trace.storeLoc ty3 (.plain rfl) (.plain rfl) rfl rfl rfl (by simp [AV.oneB, single]) (Nat.le_of_ble_eq_true rfl) rfl | apply Trace.storeRow ty3 (.plain rfl) (.plain rfl) rfl rfl rfl rfl (by decide) (by simp [AV.oneB, single]) rfl (by omega)
                            exact .nil _
                          · exact keepOK_of hk hn rfl
                          apply WPA.region
                          · apply Trace.pu [] (.move (.plain rfl))
                            apply Trace.pu [] (.arith (.plain rfl) (.plain rfl) rfl (fun _ => bd64 (by omega)))
                            apply Trace.pu [] (.assign (.plain rfl))
                            exact .nil _
                          · exact keepOK_of hk hn rfl
                          exact ⟨(v + 1, q.set v 0), ⟨hvn, by show (q.set v 0).length = _; rw [List.length_set]; exact hql, fun j hj => by show 0 ≤ fn (q.set v 0) j ∧ fn (q.set v 0) j ≤ 5; rw [show fn (q.set v 0) j = if v = j then 0 else fn q j from getD_set (by omega)]; have := hq5 j hj; split <;> omega, by show W6 g.lat.length (q.set v 0) = W6 g.lat.length l - 6 ^ (v + 1) + 1; omega⟩, by show g.lat.length - (v + 1) < g.lat.length - v; omega, St.le_cons rfl (St.le_cons rfl (St.le_cons rfl (St.le_cons (slI (by omega)) (St.le_cons rfl (St.le_cons rfl (St.le_cons rfl (St.le_cons rfl (St.le_nil _))))))))⟩
                        · have hv5 : ¬ fn q v = 5 := of_decide_eq_false hc14
                          have hqv := hq5 v hvn
                          have hqv3 : ((v, q) : Nat × List Int).snd.getD ((((v, q) : Nat × List Int).fst : Nat) : Int).toNat 0 = fn q v := rfl
                          have hqv2 : 0 ≤ q.getD ((v : Nat) : Int).toNat 0 ∧ q.getD ((v : Nat) : Int).toNat 0 ≤ 5 := hqv
                          apply WPA.exit
                          apply WPA.seq
                          apply WPA.seq
                          apply WPA.region
                          · apply Trace.pu [] (.move (.plain rfl))
                            apply Trace.pu [] (.move (.plain rfl))
                            apply Trace.pu [] (.cmp (.plain rfl) (.plain rfl) rfl)
                            exact .nil _
                          · exact keepOK_of hk hn rfl
                          refine WPA.cond rfl (fun hc15 => ?_) (fun hc15 => ?_)
                          · exfalso
                            have : ((v : Int) = g.lat.length) := of_decide_eq_true hc15
                            omega
                          · apply WPA.skip
                            apply WPA.region
                            · apply Trace.pu [] (.move (.plain rfl))
                              apply Trace.pu [] (.move (.plain rfl))
                              first | apply Trace.pu [] (.indexRows el22 (.plain rfl) (.plain rfl) (fun _ => ⟨by omega, by omega⟩)) | apply Trace.pu [] (.indexOwn el22 (.plain rfl) (.plain rfl) (fun _ => ⟨by omega, by omega⟩)) | apply Trace.pu [] (.indexSl el22 (.plain rfl) (.plain rfl) (fun _ => ⟨by omega, by omega⟩))
                              first | apply Trace.pu [_] (.loadLoc1D ty3 (.plain rfl) rfl rfl) | apply Trace.pu [_] (.loadLoc1 ty3 (.plain rfl) rfl rfl) | apply Trace.pu [] (.loadRp1 ty3 (.plain rfl) rfl) | apply Trace.pu [_] (.loadCol1 ty3 (.plain rfl) rfl rfl rfl (fun _ => by omega))
                              apply Trace.pu [] (.arith (.plain rfl) (.plain rfl) rfl (fun _ => bd64 (by omega)))
                              first | apply Trace.pu [] (.indexRows el22 (.plain rfl) (.plain rfl) (fun _ => ⟨by omega, by omega⟩)) | apply Trace.pu [] (.indexOwn el22 (.plain rfl) (.plain rfl) (fun _ => ⟨by omega, by omega⟩)) | apply Trace.pu [] (.indexSl el22 (.plain rfl) (.plain rfl) (fun _ => ⟨by omega, by omega⟩))
                              first | apply Trace.storeD ty3 (.plain rfl) (.plain rfl) rfl rfl rfl (by simp [AV.oneB, single]) (Nat.le_of_ble_eq_true rfl) rfl | apply Trace.storeDA ty3 (.plain rfl) (.plain rfl) rfl rfl rfl (by simp [AV.oneB, single]) (Nat.le_of_ble_eq_true rfl) rfl | apply Trace.storeLoc ty3 (.plain rfl) (.plain rfl) rfl rfl rfl (by simp [AV.oneB, single]) (Nat.le_of_ble_eq_true rfl) rfl | apply Trace.storeRow ty3 (.plain rfl) (.plain rfl) rfl rfl rfl rfl (by decide) (by simp [AV.oneB, single]) rfl (by omega)
                              exact .nil _
                            · exact keepOK_of hk hn rfl
                            have hWs := W6_set (x := fn q v + 1) hql hvn
                            rw [hW, show fn q v + 1 - fn q v = 1 by omega, Int.one_mul] at hWs
                            have h5 : ∀ j, j < g.lat.length → 0 ≤ fn (q.set v (fn q v + 1)) j ∧ fn (q.set v (fn q v + 1)) j ≤ 5 := fun j hj => by
                              rw [show fn (q.set v (fn q v + 1)) j = if v = j then fn q v + 1 else fn q j from getD_set (by omega)]
                              have := hq5 j hj
                              split <;> omega
                            have hle := W6_le g.lat.length h5
                            exact ⟨q.set v (fn q v + 1), ⟨by show (q.set v (fn q v + 1)).length = _; rw [List.length_set]; exact hql, h5⟩, by show (6 ^ g.lat.length - W6 g.lat.length (q.set v (fn q v + 1))).toNat < (6 ^ g.lat.length - W6 g.lat.length l).toNat; omega, St.le_cons rfl (St.le_cons rfl (St.le_cons rfl (St.le_cons rfl (St.le_cons rfl (St.le_cons rfl (St.le_cons rfl (St.le_nil _)))))))⟩
                      · apply WPA.region
                        · apply Trace.pu [] (.move (.plain rfl))
                          apply Trace.pu [] (.move (.plain rfl))
                          apply Trace.pu [] ((Pure.cmp (.plain rfl) (.plain rfl) rfl).to (y := bv false) (congrArg bv (decide_eq_false (by omega))))
                          apply Trace.pu [] (.move (.plain rfl))
                          apply Trace.pg [] rfl (Pure.never (x := bv true) (by intro d h; cases h))
                          apply Trace.pg [] rfl (Pure.never (x := bv true) (by intro d h; cases h))
                          apply Trace.pg [] rfl (Pure.never (x := bv true) (by intro d h; cases h))
                          apply Trace.pg [] rfl (Pure.never (x := bv true) (by intro d h; cases h))
                          apply Trace.pg [] rfl (Pure.never (x := bv true) (by intro d h; cases h))
                          apply Trace.pu [] (.pick (.plain rfl) (.gd rfl (by simp)) (.plain rfl))
                          exact .nil _
                        · exact keepOK_of hk hn rfl
                        refine WPA.cond rfl (fun hc16 => ?_) (fun hc16 => ?_)
                        · cases hc16
                        · apply WPA.exit
                          apply WPA.seq
                          apply WPA.seq
                          apply WPA.region
                          · apply Trace.pu [] (.move (.plain rfl))
                            apply Trace.pu [] (.move (.plain rfl))
                            apply Trace.pu [] (.cmp (.plain rfl) (.plain rfl) rfl)
                            exact .nil _
                          · exact keepOK_of hk hn rfl
                          refine WPA.cond rfl (fun hc17 => ?_) (fun hc17 => ?_)
                          · apply WPA.seq
                            apply WPA.region
                            · apply Trace.pu [] (.assign (.plain rfl))
                              exact .nil _
                            · exact keepOK_of hk hn rfl
                            apply WPA.ret
                            refine ⟨.inr rfl, ⟨_, (.cons (.tmp rfl) .nil), ?_⟩, by simp [St.get]⟩
                            rfl
                          · exfalso
                            have : ¬ ((v : Int) = g.lat.length) := of_decide_eq_false hc17
                            omega

end Go.Proofs.Ytcidkahhfdcddaa

