/- graph.Reach: the search. -/
import Derived.Test.YtcnikeonaklkoaaGraph7F
import Derived.Test.YtcnikeonaklkoaaReach
import Derived.Test.YtcnikeonaklkoaaGrow
namespace Go.Proofs.Ytcnikeonaklkoaa
open Go
set_option linter.unusedVariables false
set_option linter.unusedSimpArgs false
set_option maxRecDepth 10000
set_option maxHeartbeats 1000000

abbrev nextD (rows : List (List Int)) : D := .rows 1 rows.length fun i => [rowD (rows.getD i [])]
abbrev visA : List AV := [.loc 9 0, .loc 4 0, .loc 6 0, .loc 10 0]
abbrev CsV (n : Nat) (rows : List (List Int)) (s : DS) : St := [(bk 9, .blk (.cells [.own 53 n])), (bk 53, .blk (.app 1 n [.bools s.1])), (bk 4, .blk (.cells [.own 90 s.2.length])), (bk 90, .blk (.app 1 s.2.length [.ints .i64 s.2])), (bk 6, .blk (.cells [.d (nextD rows)])), (bk 10, .blk (.cells [.fn 23 visA]))]
theorem appB {m : Nat} {xs ys : List Bool} (h : xs = ys) : some (Cont.blk (.app 1 m [.bools xs])) = some (Cont.blk (.app 1 m [.bools ys])) := by rw [h]
theorem ownL {l m k : Nat} (h : m = k) : some (Cont.blk (.cells [.own l m])) = some (Cont.blk (.cells [.own l k])) := by rw [h]
theorem app_n {m k : Nat} {xs ys : List Int} (h : m = k) (e : xs = ys) : some (Cont.blk (.app 1 m [.ints .i64 xs])) = some (Cont.blk (.app 1 k [.ints .i64 ys])) := by rw [h, e]
/-- soundpost/graph.Reach$1 -/
theorem visit_old {n : Nat} {rows : List (List Int)} (hrl : rows.length = n) (hr : ∀ v, ∀ t ∈ rows.getD v [], 0 ≤ t ∧ t.toNat < n) (hrr : ∀ v, (rows.getD v []).length ≤ 1048576) (hn4 : n ≤ 1048576) {s : DS} {v : Nat} (hl : s.1.length = n) (hv : v < n) (hs : seen s.1 v = true) : FnSpec Try.prog 23 [iv .i64 v, .loc 9 0, .loc 4 0, .loc 6 0, .loc 10 0] (CsV n rows s) (.tup []) (CsV n rows s) [9, 53, 4, 6, 10] := by
  refine fnSpec_of (rs := []) Try.func23 rfl rfl (Nat.le_of_ble_eq_true rfl) (odd_of rfl) fun E hk hn => ?_
  apply WPA.seq
  apply WPA.seq
  apply WPA.region
  · first | apply Trace.pu [_] (.loadLoc1D ty43 (.plain rfl) rfl rfl) | apply Trace.pu [_] (.loadLoc1 ty43 (.plain rfl) rfl rfl) | apply Trace.pu [] (.loadRp1 ty43 (.plain rfl) rfl) | apply Trace.pu [_] (.loadCol1 ty43 (.plain rfl) rfl rfl rfl (fun _ => by omega))
    apply Trace.pu [] (.move (.plain rfl))
    first | apply Trace.pu [] (.indexRows el43 (.plain rfl) (.plain rfl) (fun _ => ⟨by omega, by omega⟩)) | apply Trace.pu [] (.indexOwn el43 (.plain rfl) (.plain rfl) (fun _ => ⟨by omega, by omega⟩)) | apply Trace.pu [] (.indexSl el43 (.plain rfl) (.plain rfl) (fun _ => ⟨by omega, by omega⟩))
    first | apply Trace.pu [_] (.loadLoc1D ty4 (.plain rfl) rfl rfl) | apply Trace.pu [_] (.loadLoc1 ty4 (.plain rfl) rfl rfl) | apply Trace.pu [] (.loadRp1 ty4 (.plain rfl) rfl) | apply Trace.pu [_] (.loadCol1 ty4 (.plain rfl) rfl rfl rfl (fun _ => by omega))
    exact .nil _
  · exact keepOK_of hk hn rfl
  refine WPA.cond rfl (fun hc1 => ?_) (fun hc1 => ?_)
  · apply WPA.ret
    refine ⟨.inr rfl, ⟨_, (.nil), ?_⟩, blks_of (.cons rfl (.cons rfl (.cons rfl (.cons rfl (.cons rfl (.cons rfl (.nil)))))))⟩
    rfl
  · exact absurd (show seen s.1 v = false from hc1) (by rw [hs]; decide)

/-- soundpost/graph.Reach$1 -/
theorem visit_new {n : Nat} {rows : List (List Int)} (hrl : rows.length = n) (hr : ∀ v, ∀ t ∈ rows.getD v [], 0 ≤ t ∧ t.toNat < n) (hrr : ∀ v, (rows.getD v []).length ≤ 1048576) (hn4 : n ≤ 1048576) {k : Nat} (ih : ∀ (s : DS) (v : Nat), s.1.length = n → v < n → unseen s.1 ≤ k → s.2.length + unseen s.1 ≤ 1048576 → FnSpec Try.prog 23 [iv .i64 v, .loc 9 0, .loc 4 0, .loc 6 0, .loc 10 0] (CsV n rows s) (.tup []) (CsV n rows (dfs rows k s v)) [9, 53, 4, 6, 10]) {s : DS} {v : Nat} (hl : s.1.length = n) (hv : v < n) (hk1 : unseen s.1 ≤ k + 1) (hc : s.2.length + unseen s.1 ≤ 1048576) (hs : seen s.1 v = false) : FnSpec Try.prog 23 [iv .i64 v, .loc 9 0, .loc 4 0, .loc 6 0, .loc 10 0] (CsV n rows s) (.tup []) (CsV n rows (dfs rows (k + 1) s v)) [9, 53, 4, 6, 10] := by
  have hu := unseen_set s.1 v (by omega) hs
  have hrv := hrr v
  refine fnSpec_of (rs := []) Try.func23 rfl rfl (Nat.le_of_ble_eq_true rfl) (odd_of rfl) fun E hk hn => ?_
  apply WPA.seq
  apply WPA.seq
  apply WPA.region
  · first | apply Trace.pu [_] (.loadLoc1D ty43 (.plain rfl) rfl rfl) | apply Trace.pu [_] (.loadLoc1 ty43 (.plain rfl) rfl rfl) | apply Trace.pu [] (.loadRp1 ty43 (.plain rfl) rfl) | apply Trace.pu [_] (.loadCol1 ty43 (.plain rfl) rfl rfl rfl (fun _ => by omega))
    apply Trace.pu [] (.move (.plain rfl))
    first | apply Trace.pu [] (.indexRows el43 (.plain rfl) (.plain rfl) (fun _ => ⟨by omega, by omega⟩)) | apply Trace.pu [] (.indexOwn el43 (.plain rfl) (.plain rfl) (fun _ => ⟨by omega, by omega⟩)) | apply Trace.pu [] (.indexSl el43 (.plain rfl) (.plain rfl) (fun _ => ⟨by omega, by omega⟩))
    first | apply Trace.pu [_] (.loadLoc1D ty4 (.plain rfl) rfl rfl) | apply Trace.pu [_] (.loadLoc1 ty4 (.plain rfl) rfl rfl) | apply Trace.pu [] (.loadRp1 ty4 (.plain rfl) rfl) | apply Trace.pu [_] (.loadCol1 ty4 (.plain rfl) rfl rfl rfl (fun _ => by omega))
    exact .nil _
  · exact keepOK_of hk hn rfl
  refine WPA.cond rfl (fun hc1 => ?_) (fun hc1 => ?_)
  · exact absurd (show seen s.1 v = true from hc1) (by rw [hs]; decide)
  · apply WPA.skip
    apply WPA.seq
    apply WPA.region
    · first | apply Trace.pu [_] (.loadLoc1D ty43 (.plain rfl) rfl rfl) | apply Trace.pu [_] (.loadLoc1 ty43 (.plain rfl) rfl rfl) | apply Trace.pu [] (.loadRp1 ty43 (.plain rfl) rfl) | apply Trace.pu [_] (.loadCol1 ty43 (.plain rfl) rfl rfl rfl (fun _ => by omega))
      apply Trace.pu [] (.move (.plain rfl))
      first | apply Trace.pu [] (.indexRows el43 (.plain rfl) (.plain rfl) (fun _ => ⟨by omega, by omega⟩)) | apply Trace.pu [] (.indexOwn el43 (.plain rfl) (.plain rfl) (fun _ => ⟨by omega, by omega⟩)) | apply Trace.pu [] (.indexSl el43 (.plain rfl) (.plain rfl) (fun _ => ⟨by omega, by omega⟩))
      first | apply Trace.storeD ty4 (.plain rfl) (.plain rfl) rfl rfl rfl (by simp [AV.oneB, single]) (Nat.le_of_ble_eq_true rfl) rfl | apply Trace.storeDA ty4 (.plain rfl) (.plain rfl) rfl rfl rfl (by simp [AV.oneB, single]) (Nat.le_of_ble_eq_true rfl) rfl | apply Trace.storeLoc ty4 (.plain rfl) (.plain rfl) rfl rfl rfl (by simp [AV.oneB, single]) (Nat.le_of_ble_eq_true rfl) rfl | apply Trace.storeRow ty4 (.plain rfl) (.plain rfl) rfl rfl rfl rfl (by decide) (by simp [AV.oneB, single]) rfl (by omega)
      exact .nil _
    · exact keepOK_of hk hn rfl
    apply WPA.seq
    apply WPA.region
    · first | apply Trace.pu [_] (.loadLoc1D ty22 (.plain rfl) rfl rfl) | apply Trace.pu [_] (.loadLoc1 ty22 (.plain rfl) rfl rfl) | apply Trace.pu [] (.loadRp1 ty22 (.plain rfl) rfl) | apply Trace.pu [_] (.loadCol1 ty22 (.plain rfl) rfl rfl rfl (fun _ => by omega))
      apply Trace.pu [] (.move (.plain rfl))
      apply Trace.buildSlice 17 [] so22 zo3 rfl (by decide) (by decide) (.cons (.plain rfl) rfl rfl (Nat.le_of_ble_eq_true rfl) (.nil _ _)) rfl rfl rfl
      apply Trace.append 18 [bk 90, bk 17, sl 15, sl 17] ap22 kd22 (by decide) (.own (.plain rfl) rfl) (.own (.plain rfl) rfl) (Col.ones rfl) (labs_ok rfl) (by omega) (by omega) rfl rfl
      first | apply Trace.storeD ty22 (.plain rfl) (.plain rfl) rfl rfl rfl (by simp [AV.oneB, single]) (Nat.le_of_ble_eq_true rfl) rfl | apply Trace.storeDA ty22 (.plain rfl) (.plain rfl) rfl rfl rfl (by simp [AV.oneB, single]) (Nat.le_of_ble_eq_true rfl) rfl | apply Trace.storeLoc ty22 (.plain rfl) (.plain rfl) rfl rfl rfl (by simp [AV.oneB, single]) (Nat.le_of_ble_eq_true rfl) rfl | apply Trace.storeRow ty22 (.plain rfl) (.plain rfl) rfl rfl rfl rfl (by decide) (by simp [AV.oneB, single]) rfl (by omega)
      exact .nil _
    · exact keepOK_of hk hn rfl
    apply WPA.seq
    refine WPA.ghost (Ghost.swap 90 18 (by rw [hk]; decide) (by rw [hk]; decide) rfl) ?_
    apply WPA.region
    · first | apply Trace.pu [_] (.loadLoc1D ty46 (.plain rfl) rfl rfl) | apply Trace.pu [_] (.loadLoc1 ty46 (.plain rfl) rfl rfl) | apply Trace.pu [] (.loadRp1 ty46 (.plain rfl) rfl) | apply Trace.pu [_] (.loadCol1 ty46 (.plain rfl) rfl rfl rfl (fun _ => by omega))
      apply Trace.pu [] (.move (.plain rfl))
      first | apply Trace.pu [] (.indexRows el46 (.plain rfl) (.plain rfl) (fun _ => ⟨by omega, by omega⟩)) | apply Trace.pu [] (.indexOwn el46 (.plain rfl) (.plain rfl) (fun _ => ⟨by omega, by omega⟩)) | apply Trace.pu [] (.indexSl el46 (.plain rfl) (.plain rfl) (fun _ => ⟨by omega, by omega⟩))
      first | apply Trace.pu [_] (.loadLoc1D ty22 (.plain rfl) rfl rfl) | apply Trace.pu [_] (.loadLoc1 ty22 (.plain rfl) rfl rfl) | apply Trace.pu [] (.loadRp1 ty22 (.plain rfl) rfl) | apply Trace.pu [_] (.loadCol1 ty22 (.plain rfl) rfl rfl rfl (fun _ => by omega))
      apply Trace.pu [] (.len rfl Try.underlying22 (.plain rfl) rfl)
      apply Trace.pu [] (.move (.plain rfl))
      exact .nil _
    · exact keepOK_of hk hn rfl
    apply WPA.block
    refine WPA.loop (σ := Nat) (fun i => [(sl 1, .av (.loc 9 0)), (sl 2, .av (.loc 4 0)), (sl 3, .av (.loc 6 0)), (sl 4, .av (.loc 10 0)), (sl 22, .av (.d (rowD (rows.getD v [])))), (sl 23, .av (iv .i64 ((rows.getD v []).length))), (sl 24, .av (iv .i64 (i))), (bk 9, .blk (.cells [.own 53 n])), (bk 53, .blk (.app 1 n [.bools (dfsTo rows k ((s.1.set v true, s.2 ++ [(v : Int)]) : DS) (rows.getD v []) i).1])), (bk 4, .blk (.cells [.own 90 (dfsTo rows k ((s.1.set v true, s.2 ++ [(v : Int)]) : DS) (rows.getD v []) i).2.length])), (bk 90, .blk (.app 1 (dfsTo rows k ((s.1.set v true, s.2 ++ [(v : Int)]) : DS) (rows.getD v []) i).2.length [.ints .i64 (dfsTo rows k ((s.1.set v true, s.2 ++ [(v : Int)]) : DS) (rows.getD v []) i).2])), (bk 6, .blk (.cells [.d (nextD rows)])), (bk 10, .blk (.cells [.fn 23 visA]))]) (fun i => i ≤ (rows.getD v []).length) (fun i => (rows.getD v []).length - i) 0
      (St.le_cons rfl (St.le_cons rfl (St.le_cons rfl (St.le_cons rfl (St.le_cons rfl (St.le_cons rfl (St.le_cons rfl (St.le_cons rfl (St.le_cons rfl (St.le_cons (ownL (by show _ = (s.2 ++ [(v : Int)]).length; simp)) (St.le_cons (app_n (by show _ = (s.2 ++ [(v : Int)]).length; simp) rfl) (St.le_cons rfl (St.le_cons rfl (St.le_nil _)))))))))))))) (Nat.zero_le _) fun i hi => ?_
    apply WPA.seq
    apply WPA.region
    · apply Trace.pu [] (.cmp (.plain rfl) (.plain rfl) rfl)
      exact .nil _
    · exact keepOK_of hk hn rfl
    apply WPA.seq
    refine WPA.cond rfl (fun hc2 => ?_) (fun hc2 => ?_)
    · have hlt : i < (rows.getD v []).length := by simpa using hc2
      obtain ⟨m1, m2, m3⟩ := dfsTo_more hr (k := k) (v := v) (s := ((s.1.set v true, s.2 ++ [(v : Int)]) : DS)) (by simpa using hl) (by show unseen (s.1.set v true) ≤ k; omega) i hi
      have hsu := dfsTo_succ rows k ((s.1.set v true, s.2 ++ [(v : Int)]) : DS) hlt
      have hb : 0 ≤ (rows.getD v []).getD i 0 ∧ ((rows.getD v []).getD i 0).toNat < n := hr v _ (by rw [getD_lt _ _ hlt]; exact List.getElem_mem _)
      have m3 : (dfsTo rows k ((s.1.set v true, s.2 ++ [(v : Int)]) : DS) (rows.getD v []) i).2.length + unseen (dfsTo rows k ((s.1.set v true, s.2 ++ [(v : Int)]) : DS) (rows.getD v []) i).1 = (s.2 ++ [(v : Int)]).length + unseen (s.1.set v true) := m3
      rw [List.length_append, List.length_singleton] at m3
      generalize dfsTo rows k ((s.1.set v true, s.2 ++ [(v : Int)]) : DS) (rows.getD v []) i = a at m1 m2 m3 hsu ⊢
      obtain ⟨t, ht⟩ : ∃ t : Nat, ((rows.getD v []).getD i 0).toNat = t := ⟨_, rfl⟩
      have ht2 : (rows.getD v []).getD i 0 = (t : Int) := by omega
      rw [ht] at hb hsu
      have hrec := ih a t m1 hb.2 m2 (by omega)
      obtain ⟨d, hd⟩ : ∃ d, dfs rows k a t = d := ⟨_, rfl⟩
      rw [hd] at hrec hsu
      apply WPA.skip
      apply WPA.seq
      apply WPA.block
      apply WPA.seq
      apply WPA.region
      · first | apply Trace.pu [] (.indexRows el22 (.plain rfl) (.plain rfl) (fun _ => ⟨by omega, by omega⟩)) | apply Trace.pu [] (.indexOwn el22 (.plain rfl) (.plain rfl) (fun _ => ⟨by omega, by omega⟩)) | apply Trace.pu [] (.indexSl el22 (.plain rfl) (.plain rfl) (fun _ => ⟨by omega, by omega⟩))
        apply Trace.pu [] ((Pure.loadRp1 ty3 (.plain rfl) rfl).to (y := iv .i64 (t : Nat)) (congrArg (iv .i64) ht2))
        apply Trace.pu [] (.assign (.plain rfl))
        exact .nil _
      · exact keepOK_of hk hn rfl
      apply WPA.region
      · first | apply Trace.pu [_] (.loadLoc1D ty47 (.plain rfl) rfl rfl) | apply Trace.pu [_] (.loadLoc1 ty47 (.plain rfl) rfl rfl) | apply Trace.pu [] (.loadRp1 ty47 (.plain rfl) rfl) | apply Trace.pu [_] (.loadCol1 ty47 (.plain rfl) rfl rfl rfl (fun _ => by omega))
        apply Trace.pu [] (.move (.plain rfl))
        apply Trace.cb [90] [bk 9, bk 53, bk 4, bk 90, bk 6, bk 10] (callArgs (.plain rfl) (.cons (.plain rfl) .nil)) hrec en23 (.cons rfl (.cons rfl (.cons rfl (.cons rfl (.cons rfl (.cons rfl (.nil))))))) rfl rfl
        exact .nil _
      · exact keepOK_of hk hn rfl
      apply WPA.region
      · apply Trace.pu [] (.arith (.plain rfl) (.plain rfl) rfl (fun _ => bd64 (by omega)))
        apply Trace.pu [] (.move (.plain rfl))
        exact .nil _
      · exact keepOK_of hk hn rfl
      refine ⟨i + 1, by omega, by omega, ?_⟩
      rw [hsu]
      exact (St.le_cons rfl (St.le_cons rfl (St.le_cons rfl (St.le_cons rfl (St.le_cons rfl (St.le_cons rfl (St.le_cons (slI (by omega)) (St.le_cons rfl (St.le_cons rfl (St.le_cons rfl (St.le_cons rfl (St.le_cons rfl (St.le_cons rfl (St.le_nil _))))))))))))))
    · have hie : i = (rows.getD v []).length := by
        have : ¬ ((i : Int) < (rows.getD v []).length) := by simpa using hc2
        omega
      subst hie
      rw [dfs_new hs]
      apply WPA.exit
      refine ⟨.inl rfl, ⟨_, (.nil), ?_⟩, blks_of (.cons rfl (.cons rfl (.cons rfl (.cons rfl (.cons rfl (.cons rfl (.nil)))))))⟩
      rfl

theorem spec23 {n : Nat} {rows : List (List Int)} (hrl : rows.length = n) (hr : ∀ v, ∀ t ∈ rows.getD v [], 0 ≤ t ∧ t.toNat < n) (hrr : ∀ v, (rows.getD v []).length ≤ 1048576) (hn4 : n ≤ 1048576) : ∀ (k : Nat) (s : DS) (v : Nat), s.1.length = n → v < n → unseen s.1 ≤ k → s.2.length + unseen s.1 ≤ 1048576 → FnSpec Try.prog 23 [iv .i64 v, .loc 9 0, .loc 4 0, .loc 6 0, .loc 10 0] (CsV n rows s) (.tup []) (CsV n rows (dfs rows k s v)) [9, 53, 4, 6, 10]
  | 0, s, v, hl, hv, hk, hc => visit_old hrl hr hrr hn4 hl hv (unseen_none _ (by omega) v (by omega))
  | k + 1, s, v, hl, hv, hk, hc => by
    cases hs : seen s.1 v with
    | true => rw [dfs_old hs]; exact visit_old hrl hr hrr hn4 hl hv hs
    | false => exact visit_new hrl hr hrr hn4 (fun s v a b c d => spec23 hrl hr hrr hn4 k s v a b c d) hl hv hk hc hs

end Go.Proofs.Ytcnikeonaklkoaa

