import Derived.Test.YtglokdfdogmmhaaPkA
import Derived.Test.YtglokdfdogmmhaaPkG
import Derived.Test.YtglokdfdogmmhaaPkC
import Derived.Test.YtglokdfdogmmhaaPkE
/- graph.Reach: the search. -/
namespace Go.Proofs.Ytglokdfdogmmhaa
open Go
set_option linter.unusedVariables false
set_option linter.unusedSimpArgs false
set_option maxRecDepth 10000
set_option maxHeartbeats 1000000

abbrev visR : List AV := [.loc 9 0, .loc 4 0, .loc 6 0, .loc 10 0]
abbrev CsVR (n : Nat) (rows : List (List Int)) (s : DS) : St := [(bk 9, .blk (.cells [.own 53 n])), (bk 53, .blk (.app 1 n [.bools s.1])), (bk 4, .blk (.cells [.own 90 s.2.length])), (bk 90, .blk (.app 1 s.2.length [.ints .i64 s.2])), (bk 6, .blk (.cells [.d (nextD rows)])), (bk 10, .blk (.cells [.fn 39 visR]))]
/-- soundpost/graph.Reach$1 -/
theorem visitR_old {n : Nat} {rows : List (List Int)} (hrl : rows.length = n) (hr : ∀ v, ∀ t ∈ rows.getD v [], 0 ≤ t ∧ t.toNat < n) (hrr : ∀ v, (rows.getD v []).length ≤ 1048576) (hn4 : n ≤ 1048576) {s : DS} {v : Nat} (hl : s.1.length = n) (hv : v < n) (hs : seen s.1 v = true) : FnSpec Try.prog 39 [iv .i64 v, .loc 9 0, .loc 4 0, .loc 6 0, .loc 10 0] (CsVR n rows s) (.tup []) (CsVR n rows s) [9, 53, 4, 6, 10] := by
  refine fnSpec_of (rs := []) Try.func39 rfl rfl (Nat.le_of_ble_eq_true rfl) (odd_of rfl) fun E hk hn => ?_
  apply WPA.seq
  apply WPA.seq
  apply WPA.region
  · first | apply Trace.pu [_] (.loadLoc1D ty45 (.plain rfl) rfl rfl) | apply Trace.pu [_] (.loadLoc1 ty45 (.plain rfl) rfl rfl) | apply Trace.pu [] (.loadRp1 ty45 (.plain rfl) rfl) | apply Trace.pu [_] (.loadCol1 ty45 (.plain rfl) rfl rfl rfl (fun _ => by omega))
    apply Trace.pu [] (.move (.plain rfl))
    first | apply Trace.pu [] (.indexRows el45 (.plain rfl) (.plain rfl) (fun _ => ⟨by omega, by omega⟩)) | apply Trace.pu [] (.indexOwn el45 (.plain rfl) (.plain rfl) (fun _ => ⟨by omega, by omega⟩)) | apply Trace.pu [] (.indexSl el45 (.plain rfl) (.plain rfl) (fun _ => ⟨by omega, by omega⟩))
    first | apply Trace.pu [_] (.loadLoc1D ty4 (.plain rfl) rfl rfl) | apply Trace.pu [_] (.loadLoc1 ty4 (.plain rfl) rfl rfl) | apply Trace.pu [] (.loadRp1 ty4 (.plain rfl) rfl) | apply Trace.pu [_] (.loadCol1 ty4 (.plain rfl) rfl rfl rfl (fun _ => by omega))
    exact .nil _
  · exact keepOK_of hk hn rfl
  refine WPA.cond rfl (fun hc1 => ?_) (fun hc1 => ?_)
  · apply WPA.ret
    refine ⟨.inr rfl, ⟨_, (.nil), ?_⟩, blks_of (.cons rfl (.cons rfl (.cons rfl (.cons rfl (.cons rfl (.cons rfl (.nil)))))))⟩
    rfl
  · exact absurd (show seen s.1 v = false from hc1) (by rw [hs]; decide)

/-- soundpost/graph.Reach$1 -/
theorem visitR_new {n : Nat} {rows : List (List Int)} (hrl : rows.length = n) (hr : ∀ v, ∀ t ∈ rows.getD v [], 0 ≤ t ∧ t.toNat < n) (hrr : ∀ v, (rows.getD v []).length ≤ 1048576) (hn4 : n ≤ 1048576) {k : Nat} (ih : ∀ (s : DS) (v : Nat), s.1.length = n → v < n → unseen s.1 ≤ k → s.2.length + unseen s.1 ≤ 1048576 → FnSpec Try.prog 39 [iv .i64 v, .loc 9 0, .loc 4 0, .loc 6 0, .loc 10 0] (CsVR n rows s) (.tup []) (CsVR n rows (dfs rows k s v)) [9, 53, 4, 6, 10]) {s : DS} {v : Nat} (hl : s.1.length = n) (hv : v < n) (hk1 : unseen s.1 ≤ k + 1) (hc : s.2.length + unseen s.1 ≤ 1048576) (hs : seen s.1 v = false) : FnSpec Try.prog 39 [iv .i64 v, .loc 9 0, .loc 4 0, .loc 6 0, .loc 10 0] (CsVR n rows s) (.tup []) (CsVR n rows (dfs rows (k + 1) s v)) [9, 53, 4, 6, 10] := by
  have hu := unseen_set s.1 v (by omega) hs
  have hrv := hrr v
  refine fnSpec_of (rs := []) Try.func39 rfl rfl (Nat.le_of_ble_eq_true rfl) (odd_of rfl) fun E hk hn => ?_
  apply WPA.seq
  apply WPA.seq
  apply WPA.region
  · first | apply Trace.pu [_] (.loadLoc1D ty45 (.plain rfl) rfl rfl) | apply Trace.pu [_] (.loadLoc1 ty45 (.plain rfl) rfl rfl) | apply Trace.pu [] (.loadRp1 ty45 (.plain rfl) rfl) | apply Trace.pu [_] (.loadCol1 ty45 (.plain rfl) rfl rfl rfl (fun _ => by omega))
    apply Trace.pu [] (.move (.plain rfl))
    first | apply Trace.pu [] (.indexRows el45 (.plain rfl) (.plain rfl) (fun _ => ⟨by omega, by omega⟩)) | apply Trace.pu [] (.indexOwn el45 (.plain rfl) (.plain rfl) (fun _ => ⟨by omega, by omega⟩)) | apply Trace.pu [] (.indexSl el45 (.plain rfl) (.plain rfl) (fun _ => ⟨by omega, by omega⟩))
    first | apply Trace.pu [_] (.loadLoc1D ty4 (.plain rfl) rfl rfl) | apply Trace.pu [_] (.loadLoc1 ty4 (.plain rfl) rfl rfl) | apply Trace.pu [] (.loadRp1 ty4 (.plain rfl) rfl) | apply Trace.pu [_] (.loadCol1 ty4 (.plain rfl) rfl rfl rfl (fun _ => by omega))
    exact .nil _
  · exact keepOK_of hk hn rfl
  refine WPA.cond rfl (fun hc1 => ?_) (fun hc1 => ?_)
  · exact absurd (show seen s.1 v = true from hc1) (by rw [hs]; decide)
  · apply WPA.skip
    apply WPA.seq
    apply WPA.region
    · first | apply Trace.pu [_] (.loadLoc1D ty45 (.plain rfl) rfl rfl) | apply Trace.pu [_] (.loadLoc1 ty45 (.plain rfl) rfl rfl) | apply Trace.pu [] (.loadRp1 ty45 (.plain rfl) rfl) | apply Trace.pu [_] (.loadCol1 ty45 (.plain rfl) rfl rfl rfl (fun _ => by omega))
      apply Trace.pu [] (.move (.plain rfl))
      first | apply Trace.pu [] (.indexRows el45 (.plain rfl) (.plain rfl) (fun _ => ⟨by omega, by omega⟩)) | apply Trace.pu [] (.indexOwn el45 (.plain rfl) (.plain rfl) (fun _ => ⟨by omega, by omega⟩)) | apply Trace.pu [] (.indexSl el45 (.plain rfl) (.plain rfl) (fun _ => ⟨by omega, by omega⟩))
      first | apply Trace.storeD ty4 (.plain rfl) (.plain rfl) rfl rfl rfl (by simp [AV.oneB, single]) (Nat.le_of_ble_eq_true rfl) rfl | apply Trace.storeDA ty4 (.plain rfl) (.plain rfl) rfl rfl rfl (by simp [AV.oneB, single]) (Nat.le_of_ble_eq_true rfl) rfl | apply Trace.storeLoc ty4 (.plain rfl) (.plain rfl) rfl rfl rfl (by simp [AV.oneB, single]) (Nat.le_of_ble_eq_true rfl) rfl | apply Trace.storeRow ty4 (.plain rfl) (.plain rfl) rfl rfl rfl rfl (by decide) (by simp [AV.oneB, single]) rfl (by omega)
      exact .nil _
    · exact keepOK_of hk hn rfl
    apply WPA.seq
    apply WPA.region
    · first | apply Trace.pu [_] (.loadLoc1D ty22 (.plain rfl) rfl rfl) | apply Trace.pu [_] (.loadLoc1 ty22 (.plain rfl) rfl rfl) | apply Trace.pu [] (.loadRp1 ty22 (.plain rfl) rfl) | apply Trace.pu [_] (.loadCol1 ty22 (.plain rfl) rfl rfl rfl (fun _ => by omega))
      apply Trace.pu [] (.move (.plain rfl))
      apply Trace.buildSlice 17 [] so22 zo3 rfl (by decide) (by decide) (.cons (.plain rfl) rfl rfl (Nat.le_of_ble_eq_true rfl) (.nil _ _)) rfl rfl rfl
      apply Trace.append 18 [bk 90, bk 17, sl 15, sl 17] ap22 kd22 (by decide) (.own (.plain rfl) rfl) (.own (.plain rfl) rfl) (Col.ones rfl) (labs_ok rfl) (by omega) (by omega) rfl rfl
      first | apply Trace.storeD ty22 (.plain rfl) (.plain rfl) rfl rfl rfl (by simp [AV.oneB, single]) (Nat.le_of_ble_eq_true rfl) rfl | apply Trace.storeDA ty22 (.plain rfl) (.plain rfl) rfl rfl rfl (by simp [AV.oneB, single]) (Nat.le_of_ble_eq_true rfl) rfl | apply Trace.storeLoc ty22 (.plain rfl) (.plain rfl) rfl rfl rfl (by simp [AV.oneB, single]) (Nat.le_of_ble_eq_true rfl) rfl | apply Trace.storeRow ty22 (.plain rfl) (.plain rfl) rfl rfl rfl rfl (by decide) (by simp [AV.oneB, single]) rfl (by omega)
      exact .nil _
    · exact keepOK_of hk hn rfl
    apply WPA.seq
    refine WPA.ghost (Ghost.swap 90 18 (by rw [hk]; decide) (by rw [hk]; decide) rfl) ?_
    apply WPA.region
    · first | apply Trace.pu [_] (.loadLoc1D ty28 (.plain rfl) rfl rfl) | apply Trace.pu [_] (.loadLoc1 ty28 (.plain rfl) rfl rfl) | apply Trace.pu [] (.loadRp1 ty28 (.plain rfl) rfl) | apply Trace.pu [_] (.loadCol1 ty28 (.plain rfl) rfl rfl rfl (fun _ => by omega))
      apply Trace.pu [] (.move (.plain rfl))
      first | apply Trace.pu [] (.indexRows el28 (.plain rfl) (.plain rfl) (fun _ => ⟨by omega, by omega⟩)) | apply Trace.pu [] (.indexOwn el28 (.plain rfl) (.plain rfl) (fun _ => ⟨by omega, by omega⟩)) | apply Trace.pu [] (.indexSl el28 (.plain rfl) (.plain rfl) (fun _ => ⟨by omega, by omega⟩))
      first | apply Trace.pu [_] (.loadLoc1D ty22 (.plain rfl) rfl rfl) | apply Trace.pu [_] (.loadLoc1 ty22 (.plain rfl) rfl rfl) | apply Trace.pu [] (.loadRp1 ty22 (.plain rfl) rfl) | apply Trace.pu [_] (.loadCol1 ty22 (.plain rfl) rfl rfl rfl (fun _ => by omega))
      apply Trace.pu [] (.len rfl Try.underlying22 (.plain rfl) rfl)
      apply Trace.pu [] (.move (.plain rfl))
      exact .nil _
    · exact keepOK_of hk hn rfl
    apply WPA.block
    refine WPA.loop (σ := Nat) (fun i => [(sl 1, .av (.loc 9 0)), (sl 2, .av (.loc 4 0)), (sl 3, .av (.loc 6 0)), (sl 4, .av (.loc 10 0)), (sl 22, .av (.d (rowD (rows.getD v [])))), (sl 23, .av (iv .i64 ((rows.getD v []).length))), (sl 24, .av (iv .i64 (i))), (bk 9, .blk (.cells [.own 53 n])), (bk 53, .blk (.app 1 n [.bools (dfsTo rows k ((s.1.set v true, s.2 ++ [(v : Int)]) : DS) (rows.getD v []) i).1])), (bk 4, .blk (.cells [.own 90 (dfsTo rows k ((s.1.set v true, s.2 ++ [(v : Int)]) : DS) (rows.getD v []) i).2.length])), (bk 90, .blk (.app 1 (dfsTo rows k ((s.1.set v true, s.2 ++ [(v : Int)]) : DS) (rows.getD v []) i).2.length [.ints .i64 (dfsTo rows k ((s.1.set v true, s.2 ++ [(v : Int)]) : DS) (rows.getD v []) i).2])), (bk 6, .blk (.cells [.d (nextD rows)])), (bk 10, .blk (.cells [.fn 39 visR]))]) (fun i => i ≤ (rows.getD v []).length) (fun i => (rows.getD v []).length - i) 0
      (St.le_cons rfl (St.le_cons rfl (St.le_cons rfl (St.le_cons rfl (St.le_cons rfl (St.le_cons rfl (St.le_cons rfl (St.le_cons rfl (St.le_cons rfl (St.le_cons (ownL (by show _ = (s.2 ++ [(v : Int)]).length; simp)) (St.le_cons (app_n (by show _ = (s.2 ++ [(v : Int)]).length; simp) rfl) (St.le_cons rfl (St.le_cons rfl (St.le_nil _)))))))))))))) (Nat.zero_le _) fun i hi => ?_
    apply WPA.seq
    apply WPA.region
    · apply Trace.pu [] (.cmp (.plain rfl) (.plain rfl) rfl)
      exact .nil _
    · exact keepOK_of hk hn rfl
    apply WPA.seq
    refine WPA.cond rfl (fun hc2 => ?_) (fun hc2 => ?_)
    · have hlt : i < (rows.getD v []).length := by simpa using hc2
      obtain ⟨m1, m2, m3⟩ := dfsTo_more hr (k := k) (v := v) (s := ((s.1.set v true, s.2 ++ [(v : Int)]) : DS)) (by simpa using hl) (by show unseen (s.1.set v true) ≤ k; omega) i hi
      have hsu := dfsTo_succ rows k ((s.1.set v true, s.2 ++ [(v : Int)]) : DS) hlt
      have hb : 0 ≤ (rows.getD v []).getD i 0 ∧ ((rows.getD v []).getD i 0).toNat < n := hr v _ (by rw [getD_lt _ _ hlt]; exact List.getElem_mem _)
      have m3 : (dfsTo rows k ((s.1.set v true, s.2 ++ [(v : Int)]) : DS) (rows.getD v []) i).2.length + unseen (dfsTo rows k ((s.1.set v true, s.2 ++ [(v : Int)]) : DS) (rows.getD v []) i).1 = (s.2 ++ [(v : Int)]).length + unseen (s.1.set v true) := m3
      rw [List.length_append, List.length_singleton] at m3
      generalize dfsTo rows k ((s.1.set v true, s.2 ++ [(v : Int)]) : DS) (rows.getD v []) i = a at m1 m2 m3 hsu ⊢
      obtain ⟨t, ht⟩ : ∃ t : Nat, ((rows.getD v []).getD i 0).toNat = t := ⟨_, rfl⟩
      have ht2 : (rows.getD v []).getD i 0 = (t : Int) := by omega
      rw [ht] at hb hsu
      have hrec := ih a t m1 hb.2 m2 (by omega)
      obtain ⟨d, hd⟩ : ∃ d, dfs rows k a t = d := ⟨_, rfl⟩
      rw [hd] at hrec hsu
      apply WPA.skip
      apply WPA.seq
      apply WPA.block
      apply WPA.seq
      apply WPA.region
      · first | apply Trace.pu [] (.indexRows el22 (.plain rfl) (.plain rfl) (fun _ => ⟨by omega, by omega⟩)) | apply Trace.pu [] (.indexOwn el22 (.plain rfl) (.plain rfl) (fun _ => ⟨by omega, by omega⟩)) | apply Trace.pu [] (.indexSl el22 (.plain rfl) (.plain rfl) (fun _ => ⟨by omega, by omega⟩))
        apply Trace.pu [] ((Pure.loadRp1 ty3 (.plain rfl) rfl).to (y := iv .i64 (t : Nat)) (congrArg (iv .i64) ht2))
        apply Trace.pu [] (.assign (.plain rfl))
        exact .nil _
      · exact keepOK_of hk hn rfl
      apply WPA.region
      · first | apply Trace.pu [_] (.loadLoc1D ty50 (.plain rfl) rfl rfl) | apply Trace.pu [_] (.loadLoc1 ty50 (.plain rfl) rfl rfl) | apply Trace.pu [] (.loadRp1 ty50 (.plain rfl) rfl) | apply Trace.pu [_] (.loadCol1 ty50 (.plain rfl) rfl rfl rfl (fun _ => by omega))
        apply Trace.pu [] (.move (.plain rfl))
        apply Trace.cb [90] [bk 9, bk 53, bk 4, bk 90, bk 6, bk 10] (callArgs (.plain rfl) (.cons (.plain rfl) .nil)) hrec en39 (.cons rfl (.cons rfl (.cons rfl (.cons rfl (.cons rfl (.cons rfl (.nil))))))) rfl rfl
        exact .nil _
      · exact keepOK_of hk hn rfl
      apply WPA.region
      · apply Trace.pu [] (.arith (.plain rfl) (.plain rfl) rfl (fun _ => bd64 (by omega)))
        apply Trace.pu [] (.move (.plain rfl))
        exact .nil _
      · exact keepOK_of hk hn rfl
      refine ⟨i + 1, by omega, by omega, ?_⟩
      rw [hsu]
      exact (St.le_cons rfl (St.le_cons rfl (St.le_cons rfl (St.le_cons rfl (St.le_cons rfl (St.le_cons rfl (St.le_cons (slI (by omega)) (St.le_cons rfl (St.le_cons rfl (St.le_cons rfl (St.le_cons rfl (St.le_cons rfl (St.le_cons rfl (St.le_nil _))))))))))))))
    · have hie : i = (rows.getD v []).length := by
        have : ¬ ((i : Int) < (rows.getD v []).length) := by simpa using hc2
        omega
      subst hie
      rw [dfs_new hs]
      apply WPA.exit
      refine ⟨.inl rfl, ⟨_, (.nil), ?_⟩, blks_of (.cons rfl (.cons rfl (.cons rfl (.cons rfl (.cons rfl (.cons rfl (.nil)))))))⟩
      rfl

theorem spec39 {n : Nat} {rows : List (List Int)} (hrl : rows.length = n) (hr : ∀ v, ∀ t ∈ rows.getD v [], 0 ≤ t ∧ t.toNat < n) (hrr : ∀ v, (rows.getD v []).length ≤ 1048576) (hn4 : n ≤ 1048576) : ∀ (k : Nat) (s : DS) (v : Nat), s.1.length = n → v < n → unseen s.1 ≤ k → s.2.length + unseen s.1 ≤ 1048576 → FnSpec Try.prog 39 [iv .i64 v, .loc 9 0, .loc 4 0, .loc 6 0, .loc 10 0] (CsVR n rows s) (.tup []) (CsVR n rows (dfs rows k s v)) [9, 53, 4, 6, 10]
  | 0, s, v, hl, hv, hk, hc => visitR_old hrl hr hrr hn4 hl hv (unseen_none _ (by omega) v (by omega))
  | k + 1, s, v, hl, hv, hk, hc => by
    cases hs : seen s.1 v with
    | true => rw [dfs_old hs]; exact visitR_old hrl hr hrr hn4 hl hv hs
    | false => exact visitR_new hrl hr hrr hn4 (fun s v a b c d => spec39 hrl hr hrr hn4 k s v a b c d) hl hv hk hc hs

end Go.Proofs.Ytglokdfdogmmhaa


/- graph.Reach. -/
namespace Go.Proofs.Ytglokdfdogmmhaa
open Go
set_option linter.unusedVariables false
set_option linter.unusedSimpArgs false
set_option maxRecDepth 10000
set_option maxHeartbeats 2000000

def Gr.reachP (g : Gr) (v : Int) : List Int × Int := if g.formed ≠ 0 then ([], g.formed) else if 0 ≤ v ∧ v < g.lat.length then (g.reachL v.toNat, 0) else ([], 1)
theorem setC_ment {rows : List (List Int)} {f l k len : Nat} (hl : l < 400) (hne : k ≠ l) : ∀ x ∈ (matC rows).set f (.own k len), ¬ Ment x l := by
  intro x hx hm
  rcases List.mem_or_eq_of_mem_set hx with hx | rfl
  · exact matC_ment hl x hx hm
  · cases hm with
    | own => exact hne rfl
theorem setC_out {rows : List (List Int)} {f l k m n : Nat} (hl : l < 400) (hk : k < 400) : ∀ x ∈ ((matC rows).set f (.own l m)).set f (.own k n), ¬ Ment x (inn f) := by
  rw [List.set_set]
  exact matC_but hk
theorem nm_rep {l : Nat} {ns : List Nat} : NM ([] : St) l ns := fun n c e => by cases e
theorem famNil_T {S S' : St} {l n : Nat} (hle : S'.le S) (hs : S'.get (bk l) = none) : ∀ m c, St.get ((bk l, .blk (.appv (matC (noRows n)))) :: (S' ++ fam (noRows n))) m = some c → (m = bk l ∧ c = .blk (.appv (matC (noRows n)))) ∨ (∃ i, m = bk (inn i) ∧ c = rowB []) ∨ (m ≠ bk l ∧ S.get m = some c) := fun m c e => by
  rw [get_cons] at e
  by_cases hm : bk l = m
  · rw [if_pos hm] at e; injection e with e; exact .inl ⟨hm.symm, e.symm⟩
  · rw [if_neg hm, get_app] at e
    cases hg : S'.get m with
    | some d => rw [hg] at e; simp only at e; injection e with e; subst e; exact .inr (.inr ⟨Ne.symm hm, hle _ _ hg⟩)
    | none =>
      rw [hg] at e; simp only at e
      obtain ⟨i, hi, h1, h2⟩ := fam_only e
      rw [noRows_at] at h2
      exact .inr (.inl ⟨i, h1, h2⟩)
/-- soundpost/graph.Reach -/
theorem spec22 (g : Gr) (hz : g.Sz) (fr : Int) : FnSpec Try.prog 22 [g.av, iv .i64 fr] [] (.tup ([intsD (g.reachP fr).1, .v (.int .i64 (g.reachP fr).2)].map .d)) [] [] := by
  have hn1 := hz.n
  have hn2 := hz.m
  refine fnSpec_of (rs := [.cell 4 22, .tmp 5]) Try.func22 rfl rfl (Nat.le_of_ble_eq_true rfl) (by simp [St.get]) fun E hk hn => ?_
  apply WPA.seq
  apply WPA.region
  · first | apply Trace.boxD 2 [] (.plain rfl) rfl rfl | apply Trace.box 2 [] (.plain rfl) rfl rfl rfl
    apply Trace.alloc 4 [] (.data _) zo22 (cellsAs_data _) rfl
    apply Trace.pu [] (.assign (.plain rfl))
    exact .nil _
  · exact keepOK_of hk hn rfl
  apply WPA.seq
  apply WPA.seq
  apply WPA.region
  · first | apply Trace.pu [_] (.loadAllD ty25 (.plain rfl) rfl (by simp)) | apply Trace.pu [_] (.loadLocD ty25 (.plain rfl) rfl (fun _ => by simp)) | apply Trace.pu [_] (.loadLoc ty25 (.plain rfl) rfl (fun _ => Nat.le_of_ble_eq_true rfl)) | apply Trace.pu [] (.loadRp ty25 (.plain rfl) (fun _ => by decide)) | apply Trace.pu [] (.loadRp ty25 (.plain rfl) (fun _ => Nat.le_of_ble_eq_true rfl)) | apply Trace.pu [_] (.loadCol ty25 (.plain rfl) rfl rfl (fun _ => by decide) (fun _ => by omega)) | apply Trace.pu [_] (.loadArr ty25 (.plain rfl) rfl)
    apply Trace.cu (callArgs0 (.cons (.plain rfl) .nil)) (spec38 g hz) en38
    apply Trace.pu [] (.assign (.plain rfl))
    exact .nil _
  · exact keepOK_of hk hn rfl
  apply WPA.seq
  apply WPA.region
  · apply Trace.pu [] (.move (.plain rfl))
    apply Trace.pu [] (.cmp (.plain rfl) (.plain rfl) rfl)
    exact .nil _
  · exact keepOK_of hk hn rfl
  refine WPA.cond rfl (fun hc1 => ?_) (fun hc1 => ?_)
  · have hC : g.formed ≠ 0 := by simpa using hc1
    have hM : g.reachP fr = ([], g.formed) := by unfold Gr.reachP; rw [if_pos hC]
    apply WPA.seq
    apply WPA.region
    · apply Trace.pu [] (.move (.plain rfl))
      first | apply Trace.storeD ty22 (.plain rfl) (.plain rfl) rfl rfl rfl (by simp [AV.oneB, single]) (Nat.le_of_ble_eq_true rfl) rfl | apply Trace.storeDA ty22 (.plain rfl) (.plain rfl) rfl rfl rfl (by simp [AV.oneB, single]) (Nat.le_of_ble_eq_true rfl) rfl | apply Trace.storeLoc ty22 (.plain rfl) (.plain rfl) rfl rfl rfl (by simp [AV.oneB, single]) (Nat.le_of_ble_eq_true rfl) rfl | apply Trace.storeRow ty22 (.plain rfl) (.plain rfl) rfl rfl rfl rfl (by decide) (by simp [AV.oneB, single]) rfl (by omega)
      apply Trace.pu [] (.assign (.plain rfl))
      exact .nil _
    · exact keepOK_of hk hn rfl
    refine WPA.ghost (Ghost.dataLe (l := 4) rfl (.rows (n := 1) (g := fun i => [Col.at (.ints .i64 []) i]) .nil)) ?_
    apply WPA.ret
    refine ⟨.inr rfl, ⟨_, (.cons (.cellD1 rfl rfl ty22 rfl) (.cons (.tmp rfl) .nil)), ?_⟩, by simp [St.get]⟩
    rw [hM]; rfl
  · have hC : g.formed = 0 := by simpa using hc1
    have hok := g.ok_of hC
    have hn5 := hok.n
    have hm5 := hok.m
    apply WPA.skip
    apply WPA.seq
    apply WPA.seq
    apply WPA.region
    · apply Trace.pu [] (.move (.plain rfl))
      apply Trace.pu [] (.cmp (.plain rfl) (.plain rfl) rfl)
      apply Trace.pu [] (.move (.plain rfl))
      apply Trace.pg [] rfl (.move (.plain rfl))
      apply Trace.pg [] rfl (.fieldAddr fl25_0 (.plain rfl) rfl)
      first | apply Trace.pg [_] rfl (.loadLoc1D ty22 (.gd rfl (fun h => h)) rfl rfl) | apply Trace.pg [_] rfl (.loadLoc1 ty22 (.gd rfl (fun h => h)) rfl rfl) | apply Trace.pg [] rfl (.loadRp1 ty22 (.gd rfl (fun h => h)) rfl) | apply Trace.pg [_] rfl (.loadCol1 ty22 (.gd rfl (fun h => h)) rfl rfl rfl (fun _ => by omega))
      apply Trace.pg [] rfl (.len rfl Try.underlying22 (.gd rfl (fun h => h)) rfl)
      apply Trace.pg [] rfl (.cmp (.gd rfl (fun h => h)) (.gd rfl (fun h => h)) rfl)
      apply Trace.pu [] (.pick (.plain rfl) (.plain rfl) (.gd rfl (by simp)))
      exact .nil _
    · exact keepOK_of hk hn rfl
    refine WPA.cond rfl (fun hc2 => ?_) (fun hc2 => ?_)
    · have hM : g.reachP fr = ([], 1) := by
        have h9 : (bif decide (fr < 0) then true else decide ((g.lat.length : Int) ≤ fr)) = true := hc2
        rw [bif_or, Bool.or_eq_true, decide_eq_true_eq, decide_eq_true_eq] at h9
        unfold Gr.reachP; rw [if_neg (by rw [hC]; decide), if_neg (by omega)]
      apply WPA.seq
      apply WPA.region
      · first | apply Trace.storeD ty22 (.plain rfl) (.plain rfl) rfl rfl rfl (by simp [AV.oneB, single]) (Nat.le_of_ble_eq_true rfl) rfl | apply Trace.storeDA ty22 (.plain rfl) (.plain rfl) rfl rfl rfl (by simp [AV.oneB, single]) (Nat.le_of_ble_eq_true rfl) rfl | apply Trace.storeLoc ty22 (.plain rfl) (.plain rfl) rfl rfl rfl (by simp [AV.oneB, single]) (Nat.le_of_ble_eq_true rfl) rfl | apply Trace.storeRow ty22 (.plain rfl) (.plain rfl) rfl rfl rfl rfl (by decide) (by simp [AV.oneB, single]) rfl (by omega)
        apply Trace.pu [] (.assign (.plain rfl))
        exact .nil _
      · exact keepOK_of hk hn rfl
      refine WPA.ghost (Ghost.dataLe (l := 4) rfl (.rows (n := 1) (g := fun i => [Col.at (.ints .i64 []) i]) .nil)) ?_
      apply WPA.ret
      refine ⟨.inr rfl, ⟨_, (.cons (.cellD1 rfl rfl ty22 rfl) (.cons (.tmp rfl) .nil)), ?_⟩, by simp [St.get]⟩
      rw [hM]; rfl
    · obtain ⟨v, rfl, hv⟩ : ∃ v : Nat, fr = (v : Int) ∧ v < g.lat.length := by
        have h9 : (bif decide (fr < 0) then true else decide ((g.lat.length : Int) ≤ fr)) = false := hc2
        rw [bif_or, Bool.or_eq_false_iff, decide_eq_false_iff_not, decide_eq_false_iff_not] at h9
        exact ⟨fr.toNat, by omega, by omega⟩
      have hM : g.reachP (v : Int) = (g.reachL v, 0) := by unfold Gr.reachP; rw [if_neg (by rw [hC]; decide), if_pos (by omega)]; rfl
      apply WPA.skip
      apply WPA.seq
      apply WPA.region
      · apply Trace.pu [] (.fieldAddr fl25_0 (.plain rfl) rfl)
        first | apply Trace.pu [_] (.loadLoc1D ty22 (.plain rfl) rfl rfl) | apply Trace.pu [_] (.loadLoc1 ty22 (.plain rfl) rfl rfl) | apply Trace.pu [] (.loadRp1 ty22 (.plain rfl) rfl) | apply Trace.pu [_] (.loadCol1 ty22 (.plain rfl) rfl rfl rfl (fun _ => by omega))
        apply Trace.pu [] (.len rfl Try.underlying22 (.plain rfl) rfl)
        apply Trace.makeSlice 28 [] so28 by22 zo22 rfl (by decide) (.plain rfl) (.plain rfl) ⟨by omega, by omega⟩ (by omega) (by omega) rfl rfl
        apply Trace.alloc 6 [] (.data _) zo28 (cellsAs_data _) rfl
        first | apply Trace.storeD ty28 (.plain rfl) (.plain rfl) rfl rfl rfl (by simp [AV.oneB, single]) (Nat.le_of_ble_eq_true rfl) rfl | apply Trace.storeDA ty28 (.plain rfl) (.plain rfl) rfl rfl rfl (by simp [AV.oneB, single]) (Nat.le_of_ble_eq_true rfl) rfl | apply Trace.storeLoc ty28 (.plain rfl) (.plain rfl) rfl rfl rfl (by simp [AV.oneB, single]) (Nat.le_of_ble_eq_true rfl) rfl | apply Trace.storeRow ty28 (.plain rfl) (.plain rfl) rfl rfl rfl rfl (by decide) (by simp [AV.oneB, single]) rfl (by omega)
        exact .nil _
      · exact keepOK_of hk hn rfl
      apply WPA.seq
      apply WPA.seq
      refine WPA.ghost (Ghost.toAppv (l := 28) rfl (by simp)) ?_
      refine WPA.weaken (T := [(sl 1, .av (iv .i64 (v))), (sl 2, .av (.loc 2 0)), (sl 4, .av (.loc 4 0)), (sl 6, .av (.loc 6 0)), (bk 2, .blk (.data g.ds)), (bk 4, .blk (.data [.v (.slice none 0 0)])), (bk 6, .blk (.cells [.own 28 g.lat.length])), (bk 28, .blk (.appv (List.replicate g.lat.length nilS)))]) ?_ (St.le_cons rfl (St.le_cons rfl (St.le_cons rfl (St.le_cons rfl (St.le_cons rfl (St.le_cons rfl (St.le_cons rfl (St.le_cons (appv_eq (by simp)) (St.le_nil _)))))))))
      refine WPA.ghost (Ghost.famNil (l := 28) (n := g.lat.length) (by decide) rfl (fun i => by repeat (first | rfl | refine get_skip ?_ rfl)) (fun i => by repeat (first | exact nm_rep | refine nm_appv (rep_ment _) ?_ | refine nm_cons rfl ?_)) (by rw [hk]; simp) (T := (bk 28, .blk (.appv (matC (noRows g.lat.length)))) :: ([(sl 1, .av (iv .i64 (v))), (sl 2, .av (.loc 2 0)), (sl 4, .av (.loc 4 0)), (sl 6, .av (.loc 6 0)), (bk 2, .blk (.data g.ds)), (bk 4, .blk (.data [.v (.slice none 0 0)])), (bk 6, .blk (.cells [.own 28 g.lat.length]))] ++ fam (noRows g.lat.length))) (famNil_T (by repeat (first | exact St.le_refl _ | refine St.le_cons rfl ?_ | exact St.le_nil _)) rfl)) ?_
      apply WPA.region
      · apply Trace.pu [] (.fieldAddr fl25_1 (.plain rfl) rfl)
        first | apply Trace.pu [_] (.loadLoc1D ty23 (.plain rfl) rfl rfl) | apply Trace.pu [_] (.loadLoc1 ty23 (.plain rfl) rfl rfl) | apply Trace.pu [] (.loadRp1 ty23 (.plain rfl) rfl) | apply Trace.pu [_] (.loadCol1 ty23 (.plain rfl) rfl rfl rfl (fun _ => by omega))
        apply Trace.pu [] (.len rfl Try.underlying23 (.plain rfl) rfl)
        apply Trace.pu [] (.move (.plain rfl))
        exact .nil _
      · exact keepOK_of hk hn rfl
      apply WPA.block
      refine WPA.loop (σ := Nat) (fun i => (sl 1, .av (iv .i64 (v))) :: (sl 2, .av (.loc 2 0)) :: (sl 4, .av (.loc 4 0)) :: (sl 6, .av (.loc 6 0)) :: (sl 30, .av (.d (edgesD g.es))) :: (sl 31, .av (iv .i64 (g.es.length))) :: (sl 32, .av (iv .i64 (i))) :: (bk 2, .blk (.data g.ds)) :: (bk 4, .blk (.data [.v (.slice none 0 0)])) :: (bk 6, .blk (.cells [.own 28 g.lat.length])) :: (bk 28, .blk (.appv (matC (g.nextTo i)))) :: fam (g.nextTo i)) (fun i => i ≤ g.es.length) (fun i => g.es.length - i) 0
        (St.le_cons rfl (St.le_cons rfl (St.le_cons rfl (St.le_cons rfl (St.le_cons rfl (St.le_cons rfl (St.le_cons rfl (St.le_cons rfl (St.le_cons rfl (St.le_cons rfl (St.le_cons rfl ((by repeat (first | exact St.le_refl _ | refine le_skip ?_ rfl)))))))))))))) (Nat.zero_le _) fun i hi => ?_
      apply WPA.seq
      apply WPA.region
      · apply Trace.pu [] (.cmp (.plain rfl) (.plain rfl) rfl)
        exact .nil _
      · exact keepOK_of hk hn rfl
      apply WPA.seq
      refine WPA.cond rfl (fun hc3 => ?_) (fun hc3 => ?_)
      · have hlt : i < g.es.length := by simpa using hc3
        obtain ⟨e, he⟩ : ∃ e, g.es.getD i default = e := ⟨_, rfl⟩
        obtain ⟨hem, hef, het, hef0, het0⟩ := he ▸ Gr.edge hok hlt
        obtain ⟨rows, hrows⟩ : ∃ rows, g.nextTo i = rows := ⟨_, rfl⟩
        have hrl : rows.length = g.lat.length := hrows ▸ nextTo_len g i
        have hrb : (rows.getD e.f.toNat []).length ≤ i := hrows ▸ nextTo_row i e.f.toNat
        have hfl : e.f.toNat < rows.length := by rw [hrl]; exact hef
        have hnx : g.nextTo (i + 1) = rows.set e.f.toNat (rows.getD e.f.toNat [] ++ [e.t]) := by
          rw [← hrows, ← he]; rfl
        rw [hrows]
        have hcell := matC_get hfl
        apply WPA.skip
        apply WPA.seq
        apply WPA.block
        apply WPA.seq
        apply WPA.region
        · apply Trace.pu [] ((Pure.indexRows el23 (.plain rfl) (.plain rfl) (fun _ => ⟨by omega, by omega⟩)).to (y := .rp e.ds) (by show AV.rp (g.es.getD i default).ds = _; rw [he]))
          first | apply Trace.pu [_] (.loadAllD ty43 (.plain rfl) rfl (by simp)) | apply Trace.pu [_] (.loadLocD ty43 (.plain rfl) rfl (fun _ => by simp)) | apply Trace.pu [_] (.loadLoc ty43 (.plain rfl) rfl (fun _ => Nat.le_of_ble_eq_true rfl)) | apply Trace.pu [] (.loadRp ty43 (.plain rfl) (fun _ => by decide)) | apply Trace.pu [] (.loadRp ty43 (.plain rfl) (fun _ => Nat.le_of_ble_eq_true rfl)) | apply Trace.pu [_] (.loadCol ty43 (.plain rfl) rfl rfl (fun _ => by decide) (fun _ => by omega)) | apply Trace.pu [_] (.loadArr ty43 (.plain rfl) rfl)
          apply Trace.alloc 8 [] (.data _) zo43 (cellsAs_data _) (freshB_of (fun l hl => by
              simp only [List.mem_singleton] at hl; subst hl
              repeat (first | exact nm_fam | exact nm_but | refine nm_appv (matC_ment (by decide)) ?_ | refine nm_appv (setC_ment (by decide) (by decide)) ?_ | refine nm_cons rfl ?_)))
          first | apply Trace.storeD ty43 (.plain rfl) (.plain rfl) rfl rfl (by simp) (by simp [AV.oneB, single]) (by simp) (spliceL_all (by simp)) | apply Trace.storeD ty43 (.plain rfl) (.plain rfl) rfl rfl (by simp) (by simp [AV.oneB, single]) (by simp) rfl | apply Trace.storeDA ty43 (.plain rfl) (.plain rfl) rfl rfl (by simp) (by simp [AV.oneB, single]) (by simp) rfl | apply Trace.storeLoc ty43 (.plain rfl) (.plain rfl) rfl rfl (by simp) (by simp [AV.oneB, single]) (by simp) rfl | apply Trace.storeRow ty43 (.plain rfl) (.plain rfl) rfl rfl rfl rfl (by decide) (by simp [AV.oneB, single]) rfl (by omega)
          exact .nil _
        · exact keepOK_of hk hn rfl
        refine WPA.weaken (T := (sl 1, .av (iv .i64 (v))) :: (sl 2, .av (.loc 2 0)) :: (sl 4, .av (.loc 4 0)) :: (sl 6, .av (.loc 6 0)) :: (sl 30, .av (.d (edgesD g.es))) :: (sl 31, .av (iv .i64 (g.es.length))) :: (sl 32, .av (iv .i64 (i))) :: (sl 8, .av (.loc 8 0)) :: (bk 2, .blk (.data g.ds)) :: (bk 4, .blk (.data [.v (.slice none 0 0)])) :: (bk 6, .blk (.cells [.own 28 g.lat.length])) :: (bk 8, .blk (.data e.ds)) :: (bk 28, .blk (.appv (matC rows))) :: fam rows) ?_ (St.le_cons rfl (St.le_cons rfl (St.le_cons rfl (St.le_cons rfl (St.le_cons rfl (St.le_cons rfl (St.le_cons rfl (St.le_cons rfl (St.le_cons rfl (St.le_cons rfl (St.le_cons rfl (St.le_cons rfl (St.le_cons rfl ((by repeat (first | exact St.le_refl _ | refine le_skip ?_ rfl))))))))))))))))
        refine WPA.ghost (Ghost.alias' (L := 28) (i := e.f.toNat) (a := inn e.f.toNat) (b := 95) (S' := (sl 1, .av (iv .i64 (v))) :: (sl 2, .av (.loc 2 0)) :: (sl 4, .av (.loc 4 0)) :: (sl 6, .av (.loc 6 0)) :: (sl 30, .av (.d (edgesD g.es))) :: (sl 31, .av (iv .i64 (g.es.length))) :: (sl 32, .av (iv .i64 (i))) :: (sl 8, .av (.loc 8 0)) :: (bk 2, .blk (.data g.ds)) :: (bk 4, .blk (.data [.v (.slice none 0 0)])) :: (bk 6, .blk (.cells [.own 28 g.lat.length])) :: (bk 8, .blk (.data e.ds)) :: famBut rows e.f.toNat) rfl hcell (by repeat (first | exact fam_get hfl | refine get_skip ?_ rfl)) (by unfold inn; omega) (fam_small (by decide)) (by repeat (first | exact nm_fam | refine nm_appv (matC_ment (by decide)) ?_ | refine nm_cons rfl ?_)) (by rw [hk]; simp) (St.le_cons rfl (St.le_cons rfl (St.le_cons rfl (St.le_cons rfl (St.le_cons rfl (St.le_cons rfl (St.le_cons rfl (St.le_cons rfl (St.le_cons rfl (St.le_cons rfl (St.le_cons rfl (St.le_cons rfl ((by repeat (first | exact but_le | refine but_skip ?_ rfl))))))))))))))) (by repeat (first | exact but_self | refine get_skip ?_ rfl))) ?_
        have hcell2 : ((matC rows).set e.f.toNat (.own 95 (rows.getD e.f.toNat []).length))[e.f.toNat]? = some (.own 95 (rows.getD e.f.toNat []).length) := List.getElem?_set_self (by rw [matC_length]; exact hfl)
        apply WPA.draw mixed
        · first | apply Trace.pu [_] (.loadLoc1D ty28 (.plain rfl) rfl rfl) | apply Trace.pu [_] (.loadLoc1 ty28 (.plain rfl) rfl rfl) | apply Trace.pu [] (.loadRp1 ty28 (.plain rfl) rfl) | apply Trace.pu [_] (.loadCol1 ty28 (.plain rfl) rfl rfl rfl (fun _ => by omega))
          apply Trace.pu [] (.fieldAddr fl43_0 (.plain rfl) rfl)
          first | apply Trace.pu [_] (.loadLoc1D ty3 (.plain rfl) rfl rfl) | apply Trace.pu [_] (.loadLoc1 ty3 (.plain rfl) rfl rfl) | apply Trace.pu [] (.loadRp1 ty3 (.plain rfl) rfl) | apply Trace.pu [_] (.loadCol1 ty3 (.plain rfl) rfl rfl rfl (fun _ => by omega))
          first | apply Trace.pu [_] (.loadLoc1D ty28 (.plain rfl) rfl rfl) | apply Trace.pu [_] (.loadLoc1 ty28 (.plain rfl) rfl rfl) | apply Trace.pu [] (.loadRp1 ty28 (.plain rfl) rfl) | apply Trace.pu [_] (.loadCol1 ty28 (.plain rfl) rfl rfl rfl (fun _ => by omega))
          apply Trace.pu [] (.fieldAddr fl43_0 (.plain rfl) rfl)
          first | apply Trace.pu [_] (.loadLoc1D ty3 (.plain rfl) rfl rfl) | apply Trace.pu [_] (.loadLoc1 ty3 (.plain rfl) rfl rfl) | apply Trace.pu [] (.loadRp1 ty3 (.plain rfl) rfl) | apply Trace.pu [_] (.loadCol1 ty3 (.plain rfl) rfl rfl rfl (fun _ => by omega))
          first | apply Trace.pu [] (.indexRows el28 (.plain rfl) (.plain rfl) (fun _ => ⟨by omega, by omega⟩)) | apply Trace.pu [] (.indexOwn el28 (.plain rfl) (.plain rfl) (fun _ => ⟨by omega, by omega⟩)) | apply Trace.pu [] (.indexSl el28 (.plain rfl) (.plain rfl) (fun _ => ⟨by omega, by omega⟩))
          apply Trace.pu [28] (.loadRowV ty22 (.plain rfl) rfl (fun _ => hcell2))
          apply Trace.pu [] (.fieldAddr fl43_1 (.plain rfl) rfl)
          first | apply Trace.pu [_] (.loadLoc1D ty3 (.plain rfl) rfl rfl) | apply Trace.pu [_] (.loadLoc1 ty3 (.plain rfl) rfl rfl) | apply Trace.pu [] (.loadRp1 ty3 (.plain rfl) rfl) | apply Trace.pu [_] (.loadCol1 ty3 (.plain rfl) rfl rfl rfl (fun _ => by omega))
          apply Trace.buildSlice 46 [] so22 zo3 rfl (by decide) (by decide) (.cons (.plain rfl) rfl rfl (Nat.le_of_ble_eq_true rfl) (.nil _ _)) rfl rfl (freshB_of (fun l hl => by
              simp only [List.mem_singleton] at hl; subst hl
              repeat (first | exact nm_fam | exact nm_but | refine nm_appv (matC_ment (by decide)) ?_ | refine nm_appv (setC_ment (by decide) (by decide)) ?_ | refine nm_cons rfl ?_)))
          apply Trace.append 47 [bk 95, bk 46, sl 43, sl 46] ap22 kd22 (by decide) (.own (.plain rfl) rfl) (.own (.plain rfl) rfl) (Col.ones rfl) (labs_ok rfl) (by omega) (by omega) rfl (freshB_of (fun l hl => by
              simp only [List.mem_singleton] at hl; subst hl
              repeat (first | exact nm_fam | exact nm_but | refine nm_appv (matC_ment (by decide)) ?_ | refine nm_appv (setC_ment (by decide) (by decide)) ?_ | refine nm_cons rfl ?_)))
          first | apply Trace.pu [] (.indexRows el28 (.plain rfl) (.plain rfl) (fun _ => ⟨by omega, by omega⟩)) | apply Trace.pu [] (.indexOwn el28 (.plain rfl) (.plain rfl) (fun _ => ⟨by omega, by omega⟩)) | apply Trace.pu [] (.indexSl el28 (.plain rfl) (.plain rfl) (fun _ => ⟨by omega, by omega⟩))
          apply Trace.storeRowV ty22 (.plain rfl) (.plain rfl) rfl rfl rfl (by rw [List.length_set, matC_length]; exact hfl) rfl
          exact .nil _
        · exact drawB_of rfl (by repeat (first | exact freshL_nil | refine freshL_cons (by first | exact rfl | exact (freshB_of (fun l hl => by
    simp only [List.mem_singleton] at hl; subst hl
    repeat (first | exact nm_fam | exact nm_but | refine nm_appv (matC_ment (by decide)) ?_ | refine nm_appv (setC_ment (by decide) (by decide)) ?_ | refine nm_cons rfl ?_)))) ?_))
        · repeat (first | exact keepOK_nil | refine keepOK_cons (by first | exact axOK_of hk hn rfl | exact axOK_blk) ?_)
        refine WPA.weaken (T := (sl 1, .av (iv .i64 (v))) :: (sl 2, .av (.loc 2 0)) :: (sl 4, .av (.loc 4 0)) :: (sl 6, .av (.loc 6 0)) :: (sl 30, .av (.d (edgesD g.es))) :: (sl 31, .av (iv .i64 (g.es.length))) :: (sl 32, .av (iv .i64 (i))) :: (bk 2, .blk (.data g.ds)) :: (bk 4, .blk (.data [.v (.slice none 0 0)])) :: (bk 6, .blk (.cells [.own 28 g.lat.length])) :: (bk 28, .blk (.appv (((matC rows).set e.f.toNat (.own 95 (rows.getD e.f.toNat []).length)).set e.f.toNat (.own 47 ((rows.getD e.f.toNat []).length + 1))))) :: (bk 47, .blk (.app 1 ((rows.getD e.f.toNat []).length + 1) [.ints .i64 (rows.getD e.f.toNat [] ++ [e.t])])) :: famBut rows e.f.toNat) ?_ (St.le_cons rfl (St.le_cons rfl (St.le_cons rfl (St.le_cons rfl (St.le_cons rfl (St.le_cons rfl (St.le_cons rfl (St.le_cons rfl (St.le_cons rfl (St.le_cons rfl (St.le_cons rfl (St.le_cons rfl ((by repeat (first | exact St.le_refl _ | exact but_le | refine but_skip ?_ rfl | refine but_del ?_ rfl)))))))))))))))
        refine WPA.ghost (Ghost.alias' (L := 28) (i := e.f.toNat) (a := 47) (b := inn e.f.toNat) (S' := (sl 1, .av (iv .i64 (v))) :: (sl 2, .av (.loc 2 0)) :: (sl 4, .av (.loc 4 0)) :: (sl 6, .av (.loc 6 0)) :: (sl 30, .av (.d (edgesD g.es))) :: (sl 31, .av (iv .i64 (g.es.length))) :: (sl 32, .av (iv .i64 (i))) :: (bk 2, .blk (.data g.ds)) :: (bk 4, .blk (.data [.v (.slice none 0 0)])) :: (bk 6, .blk (.cells [.own 28 g.lat.length])) :: famBut rows e.f.toNat) rfl (List.getElem?_set_self (by rw [List.length_set, matC_length]; exact hfl)) rfl (by decide) (by repeat (first | exact but_self | refine get_skip ?_ rfl)) (by repeat (first | exact nm_but | refine nm_appv (setC_out (by decide) (by decide)) ?_ | refine nm_cons rfl ?_)) (by rw [hk]; simp) (St.le_cons rfl (St.le_cons rfl (St.le_cons rfl (St.le_cons rfl (St.le_cons rfl (St.le_cons rfl (St.le_cons rfl (St.le_cons rfl (St.le_cons rfl (St.le_cons rfl ((by repeat (first | exact St.le_refl _ | exact but_le | refine but_skip ?_ rfl | refine but_del ?_ rfl))))))))))))) (but_small (by decide))) ?_
        apply WPA.region
        · apply Trace.pu [] (.arith (.plain rfl) (.plain rfl) rfl (fun _ => bd64 (by omega)))
          apply Trace.pu [] (.move (.plain rfl))
          exact .nil _
        · exact keepOK_of hk hn rfl
        refine ⟨i + 1, by omega, by omega, ?_⟩
        rw [hnx]
        exact (St.le_cons rfl (St.le_cons rfl (St.le_cons rfl (St.le_cons rfl (St.le_cons rfl (St.le_cons rfl (St.le_cons (slI (by omega)) (St.le_cons rfl (St.le_cons rfl (St.le_cons rfl (St.le_cons (appv_eq (by rw [List.set_set, List.set_set, ← matC_put]; congr 2; simp)) ((by repeat (first | exact but_back (by repeat (first | exact St.le_refl _ | exact but_le | refine but_skip ?_ rfl | refine but_del ?_ rfl)) (by simp) | refine le_skip ?_ rfl))))))))))))))
      · have him : i = g.es.length := by
          have : ¬ ((i : Int) < g.es.length) := by simpa using hc3
          omega
        subst him
        have hnl : g.next.length = g.lat.length := nextTo_len g _
        refine WPA.weaken (T := (sl 1, .av (iv .i64 (v))) :: (sl 2, .av (.loc 2 0)) :: (sl 4, .av (.loc 4 0)) :: (sl 6, .av (.loc 6 0)) :: (bk 2, .blk (.data g.ds)) :: (bk 4, .blk (.data [.v (.slice none 0 0)])) :: (bk 6, .blk (.cells [.own 28 g.lat.length])) :: (bk 28, .blk (.appv (matC g.next))) :: fam g.next) ?_ (St.le_cons rfl (St.le_cons rfl (St.le_cons rfl (St.le_cons rfl (St.le_cons rfl (St.le_cons rfl (St.le_cons rfl (St.le_cons rfl ((by repeat (first | exact St.le_refl _ | refine le_skip ?_ rfl)))))))))))
        refine WPA.ghost (Ghost.famFreeze (l := 28) (rows := g.next) (S' := [(sl 1, .av (iv .i64 (v))), (sl 2, .av (.loc 2 0)), (sl 4, .av (.loc 4 0)), (sl 6, .av (.loc 6 0)), (bk 2, .blk (.data g.ds)), (bk 4, .blk (.data [.v (.slice none 0 0)])), (bk 6, .blk (.cells [.own 28 g.lat.length]))]) (by decide) rfl (by repeat (first | exact St.le_refl _ | refine le_skip ?_ rfl)) (St.le_cons rfl (St.le_cons rfl (St.le_cons rfl (St.le_cons rfl (St.le_cons rfl (St.le_cons rfl (St.le_cons rfl (St.le_nil _)))))))) (fun i => by repeat (first | rfl | refine get_skip ?_ rfl))) ?_
        refine WPA.weaken (T := [(sl 1, .av (iv .i64 (v))), (sl 2, .av (.loc 2 0)), (sl 4, .av (.loc 4 0)), (sl 6, .av (.loc 6 0)), (bk 2, .blk (.data g.ds)), (bk 4, .blk (.data [.v (.slice none 0 0)])), (bk 6, .blk (.cells [.own 28 g.lat.length])), (bk 28, .blk (.appv ((g.next.map rowD).map .d)))]) ?_ (St.le_cons rfl (St.le_cons rfl (St.le_cons rfl (St.le_cons rfl (St.le_cons rfl (St.le_cons rfl (St.le_cons rfl (St.le_cons (appv_eq (by rw [List.map_map]; rfl)) (St.le_nil _)))))))))
        refine WPA.ghost (Ghost.fromAppv (l := 28) (n := g.lat.length) rfl (by rw [List.length_map]; exact hnl)) ?_
        refine WPA.ghost (Ghost.cellFreeze (lb := 6) (j := 0) (l := 28) (g := fun i => [rowD (g.next.getD i [])]) rfl rfl rfl rfl (fun i hi => by simp [Col.at, List.getD_eq_getElem?_getD, hnl, hi]) rfl) ?_
        refine WPA.weaken (T := [(sl 1, .av (iv .i64 (v))), (sl 2, .av (.loc 2 0)), (sl 4, .av (.loc 4 0)), (sl 6, .av (.loc 6 0)), (bk 2, .blk (.data g.ds)), (bk 4, .blk (.data [.v (.slice none 0 0)])), (bk 6, .blk (.cells [.d (nextD g.next)]))]) ?_ (St.le_cons rfl (St.le_cons rfl (St.le_cons rfl (St.le_cons rfl (St.le_cons rfl (St.le_cons rfl (St.le_cons (by show some (Cont.blk (.cells [.d (.rows 1 g.lat.length _)])) = some (Cont.blk (.cells [.d (.rows 1 g.next.length _)])); rw [hnl]) (St.le_nil _))))))))
        apply WPA.exit
        apply WPA.seq
        apply WPA.region
        · apply Trace.pu [] (.fieldAddr fl25_0 (.plain rfl) rfl)
          first | apply Trace.pu [_] (.loadLoc1D ty22 (.plain rfl) rfl rfl) | apply Trace.pu [_] (.loadLoc1 ty22 (.plain rfl) rfl rfl) | apply Trace.pu [] (.loadRp1 ty22 (.plain rfl) rfl) | apply Trace.pu [_] (.loadCol1 ty22 (.plain rfl) rfl rfl rfl (fun _ => by omega))
          apply Trace.pu [] (.len rfl Try.underlying22 (.plain rfl) rfl)
          apply Trace.makeSlice 53 [] so45 by4 zo4 rfl (by decide) (.plain rfl) (.plain rfl) ⟨by omega, by omega⟩ (by omega) (by omega) rfl rfl
          apply Trace.alloc 9 [] (.data _) zo45 (cellsAs_data _) rfl
          first | apply Trace.storeD ty45 (.plain rfl) (.plain rfl) rfl rfl rfl (by simp [AV.oneB, single]) (Nat.le_of_ble_eq_true rfl) rfl | apply Trace.storeDA ty45 (.plain rfl) (.plain rfl) rfl rfl rfl (by simp [AV.oneB, single]) (Nat.le_of_ble_eq_true rfl) rfl | apply Trace.storeLoc ty45 (.plain rfl) (.plain rfl) rfl rfl rfl (by simp [AV.oneB, single]) (Nat.le_of_ble_eq_true rfl) rfl | apply Trace.storeRow ty45 (.plain rfl) (.plain rfl) rfl rfl rfl rfl (by decide) (by simp [AV.oneB, single]) rfl (by omega)
          exact .nil _
        · exact keepOK_of hk hn rfl
        apply WPA.seq
        apply WPA.region
        · apply Trace.alloc 10 [] (.data _) zo50 (cellsAs_data _) rfl
          exact .nil _
        · exact keepOK_of hk hn rfl
        apply WPA.seq
        apply WPA.region
        · apply Trace.pu [] (.funcL (.cons (.plain rfl) (.cons (.plain rfl) (.cons (.plain rfl) (.cons (.plain rfl) .nil)))))
          first | apply Trace.storeD ty50 (.plain rfl) (.plain rfl) rfl rfl rfl (by simp [AV.oneB, single]) (Nat.le_of_ble_eq_true rfl) rfl | apply Trace.storeDA ty50 (.plain rfl) (.plain rfl) rfl rfl rfl (by simp [AV.oneB, single]) (Nat.le_of_ble_eq_true rfl) rfl | apply Trace.storeLoc ty50 (.plain rfl) (.plain rfl) rfl rfl rfl (by simp [AV.oneB, single]) (Nat.le_of_ble_eq_true rfl) rfl | apply Trace.storeRow ty50 (.plain rfl) (.plain rfl) rfl rfl rfl rfl (by decide) (by simp [AV.oneB, single]) rfl (by omega)
          exact .nil _
        · exact keepOK_of hk hn rfl
        apply WPA.seq
        refine WPA.ghost (Ghost.dataCells (l := 4) rfl rfl) ?_
        refine WPA.ghost (Ghost.cellNil (lb := 4) (j := 0) (l := 90) (cols := [.ints .i64 []]) (n := 1) rfl rfl rfl rfl (by rw [hk]; decide) rfl (by simp [Col.len]) rfl) ?_
        refine WPA.weaken (T := [(sl 1, .av (iv .i64 (v))), (sl 4, .av (.loc 4 0)), (sl 10, .av (.loc 10 0)), (bk 9, .blk (.cells [.own 53 g.lat.length])), (bk 53, .blk (.app 1 g.lat.length [.bools (List.replicate g.lat.length false)])), (bk 4, .blk (.cells [.own 90 0])), (bk 90, .blk (.app 1 0 [.ints .i64 []])), (bk 6, .blk (.cells [.d (nextD g.next)])), (bk 10, .blk (.cells [.fn 39 visR]))]) ?_ (St.le_cons rfl (St.le_cons rfl (St.le_cons rfl (St.le_cons rfl (St.le_cons rfl (St.le_cons rfl (St.le_cons rfl (St.le_cons rfl (St.le_cons rfl (St.le_nil _))))))))))
        have hvis := spec39 (n := g.lat.length) (rows := g.next) hnl (next_ok hok) (fun w => Nat.le_trans (nextTo_row (g := g) g.es.length w) (by omega)) (by omega) g.lat.length ((List.replicate g.lat.length false, []) : DS) v (by simp) hv (by rw [unseen_replicate]; exact Nat.le_refl _) (by rw [unseen_replicate]; simp; omega)
        have hrs : dfs g.next g.lat.length ((List.replicate g.lat.length false, []) : DS) v = g.reachS v := rfl
        rw [hrs] at hvis
        have hpos := reachS_pos hok hv
        have hrl2 := reachS_len hok hv
        have hsr := reach_sorted hok hv
        generalize g.reachS v = r at hvis hpos hrl2 hsr
        apply WPA.region
        · first | apply Trace.pu [_] (.loadLoc1D ty50 (.plain rfl) rfl rfl) | apply Trace.pu [_] (.loadLoc1 ty50 (.plain rfl) rfl rfl) | apply Trace.pu [] (.loadRp1 ty50 (.plain rfl) rfl) | apply Trace.pu [_] (.loadCol1 ty50 (.plain rfl) rfl rfl rfl (fun _ => by omega))
          apply Trace.pu [] (.move (.plain rfl))
          apply Trace.cb [90] [bk 9, bk 53, bk 4, bk 90, bk 6, bk 10] (callArgs (.plain rfl) (.cons (.plain rfl) .nil)) hvis en39 (.cons rfl (.cons rfl (.cons rfl (.cons rfl (.cons rfl (.cons rfl (.nil))))))) rfl rfl
          exact .nil _
        · exact keepOK_of hk hn rfl
        apply WPA.seq
        apply WPA.region
        · first | apply Trace.pu [_] (.loadLoc1D ty22 (.plain rfl) rfl rfl) | apply Trace.pu [_] (.loadLoc1 ty22 (.plain rfl) rfl rfl) | apply Trace.pu [] (.loadRp1 ty22 (.plain rfl) rfl) | apply Trace.pu [_] (.loadCol1 ty22 (.plain rfl) rfl rfl rfl (fun _ => by omega))
          apply Trace.cb [] [bk 90] (callArgs0 (.cons (.plain rfl) .nil)) ((spec40 (xs := r.2) rfl hpos (by omega)).as 0 90 rfl rfl rfl rfl rfl rfl rfl) en40 (.cons rfl .nil) rfl rfl
          exact .nil _
        · exact keepOK_of hk hn rfl
        apply WPA.seq
        apply WPA.region
        · first | apply Trace.pu [_] (.loadLoc1D ty22 (.plain rfl) rfl rfl) | apply Trace.pu [_] (.loadLoc1 ty22 (.plain rfl) rfl rfl) | apply Trace.pu [] (.loadRp1 ty22 (.plain rfl) rfl) | apply Trace.pu [_] (.loadCol1 ty22 (.plain rfl) rfl rfl rfl (fun _ => by omega))
          first | apply Trace.storeD ty22 (.plain rfl) (.plain rfl) rfl rfl rfl (by simp [AV.oneB, single]) (Nat.le_of_ble_eq_true rfl) rfl | apply Trace.storeDA ty22 (.plain rfl) (.plain rfl) rfl rfl rfl (by simp [AV.oneB, single]) (Nat.le_of_ble_eq_true rfl) rfl | apply Trace.storeLoc ty22 (.plain rfl) (.plain rfl) rfl rfl rfl (by simp [AV.oneB, single]) (Nat.le_of_ble_eq_true rfl) rfl | apply Trace.storeRow ty22 (.plain rfl) (.plain rfl) rfl rfl rfl rfl (by decide) (by simp [AV.oneB, single]) rfl (by omega)
          apply Trace.pu [] (.assign (.plain rfl))
          exact .nil _
        · exact keepOK_of hk hn rfl
        refine WPA.ghost (Ghost.cellFreeze (lb := 4) (j := 0) (l := 90) (g := fun i => [Col.at (.ints .i64 (sorted r.2)) i]) rfl rfl rfl rfl (fun i hi => rfl) rfl) ?_
        apply WPA.ret
        refine ⟨.inr rfl, ⟨_, (.cons (.cell1 rfl rfl ty22 rfl) (.cons (.tmp rfl) .nil)), ?_⟩, by simp [St.get]⟩
        have hss : sorted r.2 = g.reachL v := hsr
        have hls : r.2.length = (g.reachL v).length := by rw [← hss, sorted_len]
        rw [hM, hss, hls]; rfl

end Go.Proofs.Ytglokdfdogmmhaa


/- OrderParts. -/
namespace Go.Proofs.Ytglokdfdogmmhaa
open Go
set_option linter.unusedVariables false
set_option linter.unusedSimpArgs false
set_option maxRecDepth 10000
set_option maxHeartbeats 1000000

theorem reN {g : Gr} (hz : g.Sz) (hok : g.OK) (hF : g.formed = 0) {v : Nat} (hv : v < g.lat.length) : FnSpec Try.prog 22 [g.av, iv .i64 (v : Nat)] [] (.tup ([intsD (g.reachL v), .v (.int .i64 0)].map .d)) [] [] := by
  have := spec22 g hz (v : Int)
  have e : g.reachP (v : Int) = (g.reachL v, 0) := by
    unfold Gr.reachP
    rw [if_neg (by rw [hF]; decide), if_pos (by omega)]; rfl
  rw [e] at this
  exact this
theorem reachL_iff {g : Gr} (h : g.OK) {v : Nat} (hv : v < g.lat.length) {u : Nat} : (u : Int) ∈ g.reachL v ↔ g.Way v u := by
  rw [mem_reachL h hv]
  exact ⟨fun ⟨x, hx, hw⟩ => by have : u = x := by omega
                               subst this; exact hw, fun hw => ⟨u, rfl, hw⟩⟩
theorem reachL_len {g : Gr} (h : g.OK) {v : Nat} (hv : v < g.lat.length) : (g.reachL v).length ≤ g.lat.length := by
  unfold Gr.reachL markL
  rw [List.length_map]
  exact Nat.le_trans (List.length_filter_le _ _) (by simp)
theorem both_eq {g : Gr} (hok : g.OK) {v w : Nat} (hv : v < g.lat.length) (hw : w < g.lat.length) : decide (g.atP.getD v 0 = g.atP.getD w 0) = (decide ((v : Int) = (w : Int)) || (decide ((w : Int) ∈ g.reachL v) && decide ((v : Int) ∈ g.reachL w))) := by
  rw [Bool.eq_iff_iff, decide_eq_true_eq, Bool.or_eq_true, Bool.and_eq_true, decide_eq_true_eq, decide_eq_true_eq, decide_eq_true_eq, atP_two hok hv hw, reachL_iff hok hv, reachL_iff hok hw]
  constructor
  · intro h; exact .inr h
  · rintro (h | h)
    · have : v = w := by omega
      subst this; exact ⟨.refl, .refl⟩
    · exact h
/-- soundpost/soundpostlaw22.OrderParts -/
theorem spec8 (g : Gr) (hz : g.Sz) : FnSpec Try.prog 8 [g.av] [] (bv true) [] [] := by
  have hn1 := hz.n
  have hn2 := hz.m
  refine fnSpec_of (rs := [.tmp 2]) Try.func8 rfl rfl (Nat.le_of_ble_eq_true rfl) (by simp [St.get]) fun E hk hn => ?_
  apply WPA.seq
  apply WPA.region
  · first | apply Trace.boxD 1 [] (.plain rfl) rfl rfl | apply Trace.box 1 [] (.plain rfl) rfl rfl rfl
    apply Trace.pu [] (.assign (.plain rfl))
    exact .nil _
  · exact keepOK_of hk hn rfl
  apply WPA.seq
  apply WPA.seq
  apply WPA.region
  · apply Trace.cu (callArgs0 .nil) spec9 en9
    apply Trace.pu [] (.not (.plain rfl))
    exact .nil _
  · exact keepOK_of hk hn rfl
  refine WPA.cond rfl (fun hc1 => ?_) (fun hc1 => ?_)
  · cases hc1
  · apply WPA.skip
    apply WPA.seq
    apply WPA.seq
    apply WPA.region
    · first | apply Trace.pu [_] (.loadAllD ty25 (.plain rfl) rfl (by simp)) | apply Trace.pu [_] (.loadLocD ty25 (.plain rfl) rfl (fun _ => by simp)) | apply Trace.pu [_] (.loadLoc ty25 (.plain rfl) rfl (fun _ => Nat.le_of_ble_eq_true rfl)) | apply Trace.pu [] (.loadRp ty25 (.plain rfl) (fun _ => by decide)) | apply Trace.pu [] (.loadRp ty25 (.plain rfl) (fun _ => Nat.le_of_ble_eq_true rfl)) | apply Trace.pu [_] (.loadCol ty25 (.plain rfl) rfl rfl (fun _ => by decide) (fun _ => by omega)) | apply Trace.pu [_] (.loadArr ty25 (.plain rfl) rfl)
      apply Trace.cu (callArgs0 (.cons (.plain rfl) .nil)) (spec10 g hz) en10
      apply Trace.pu [] (.not (.plain rfl))
      exact .nil _
    · exact keepOK_of hk hn rfl
    refine WPA.cond rfl (fun hc2 => ?_) (fun hc2 => ?_)
    · apply WPA.seq
      apply WPA.region
      · apply Trace.pu [] (.assign (.plain rfl))
        exact .nil _
      · exact keepOK_of hk hn rfl
      apply WPA.ret
      refine ⟨.inr rfl, ⟨_, (.cons (.tmp rfl) .nil), ?_⟩, by simp [St.get]⟩
      rfl
    · have hf : g.few22 = true := by simpa using hc2
      obtain ⟨h12, h40⟩ := few22_of hf
      apply WPA.skip
      apply WPA.seq
      apply WPA.region
      · first | apply Trace.pu [_] (.loadAllD ty25 (.plain rfl) rfl (by simp)) | apply Trace.pu [_] (.loadLocD ty25 (.plain rfl) rfl (fun _ => by simp)) | apply Trace.pu [_] (.loadLoc ty25 (.plain rfl) rfl (fun _ => Nat.le_of_ble_eq_true rfl)) | apply Trace.pu [] (.loadRp ty25 (.plain rfl) (fun _ => by decide)) | apply Trace.pu [] (.loadRp ty25 (.plain rfl) (fun _ => Nat.le_of_ble_eq_true rfl)) | apply Trace.pu [_] (.loadCol ty25 (.plain rfl) rfl rfl (fun _ => by decide) (fun _ => by omega)) | apply Trace.pu [_] (.loadArr ty25 (.plain rfl) rfl)
        apply Trace.ct (callArgs0 (.cons (.plain rfl) .nil)) (paN hz h12 (l := if g.check = 0 then g.partsR else []) (c := g.check) rfl) en11
        apply Trace.pu [] (.move (.plain rfl))
        apply Trace.pu [] (.extract (.plain rfl) rfl)
        apply Trace.pu [] (.extract (.plain rfl) rfl)
        apply Trace.pu [] (.assign (.plain rfl))
        apply Trace.pu [] (.assign (.plain rfl))
        exact .nil _
      · exact keepOK_of hk hn rfl
      apply WPA.seq
      apply WPA.seq
      apply WPA.region
      · first | apply Trace.pu [_] (.loadAllD ty25 (.plain rfl) rfl (by simp)) | apply Trace.pu [_] (.loadLocD ty25 (.plain rfl) rfl (fun _ => by simp)) | apply Trace.pu [_] (.loadLoc ty25 (.plain rfl) rfl (fun _ => Nat.le_of_ble_eq_true rfl)) | apply Trace.pu [] (.loadRp ty25 (.plain rfl) (fun _ => by decide)) | apply Trace.pu [] (.loadRp ty25 (.plain rfl) (fun _ => Nat.le_of_ble_eq_true rfl)) | apply Trace.pu [_] (.loadCol ty25 (.plain rfl) rfl rfl (fun _ => by decide) (fun _ => by omega)) | apply Trace.pu [_] (.loadArr ty25 (.plain rfl) rfl)
        apply Trace.cu (callArgs0 (.cons (.plain rfl) .nil)) (spec17 g hz) en17
        apply Trace.pu [] (.assign (.plain rfl))
        exact .nil _
      · exact keepOK_of hk hn rfl
      apply WPA.seq
      apply WPA.region
      · apply Trace.pu [] (.move (.plain rfl))
        apply Trace.pu [] (.move (.plain rfl))
        apply Trace.pu [] ((Pure.cmp (.plain rfl) (.plain rfl) rfl).to (y := bv false) (by show bv (!decide (g.check = g.check)) = _; rw [decide_eq_true rfl]; rfl))
        apply Trace.pu [] (.move (.plain rfl))
        apply Trace.pg [] rfl (.move (.plain rfl))
        apply Trace.pg [] rfl (.cmp (.gd rfl (fun h => h)) (.plain rfl) rfl)
        apply Trace.pu [] (.pick (.plain rfl) (.plain rfl) (.gd rfl (by simp)))
        exact .nil _
      · exact keepOK_of hk hn rfl
      refine WPA.cond rfl (fun hc3 => ?_) (fun hc3 => ?_)
      · have hC : g.check ≠ 0 := by
          have h9 : (!decide (g.check = 0)) = true := hc3
          simpa using h9
        apply WPA.seq
        apply WPA.region
        · apply Trace.pu [] (.move (.plain rfl))
          apply Trace.pu [] (.move (.plain rfl))
          apply Trace.pu [] ((Pure.cmp (.plain rfl) (.plain rfl) rfl).to (y := bv true) (congrArg bv (decide_eq_true rfl)))
          apply Trace.pu [] (.move (.plain rfl))
          apply Trace.pg [] rfl (.move (.plain rfl))
          apply Trace.pg [] rfl (.len rfl Try.underlying28 (.gd rfl (fun h => h)) rfl)
          apply Trace.pg [] rfl ((Pure.cmp (.gd rfl (fun h => h)) (.plain rfl) rfl).to (y := bv true) (by show bv (decide (((if g.check = 0 then g.partsR else []).length : Int) = 0)) = _; rw [if_neg hC]; rfl))
          apply Trace.pu [] (.pick (.plain rfl) (.gd rfl (by simp)) (.plain rfl))
          apply Trace.pu [] (.assign (.plain rfl))
          exact .nil _
        · exact keepOK_of hk hn rfl
        apply WPA.ret
        refine ⟨.inr rfl, ⟨_, (.cons (.tmp rfl) .nil), ?_⟩, by simp [St.get]⟩
        rfl
      · have hC : g.check = 0 := by
          have h9 : (!decide (g.check = 0)) = false := hc3
          simpa using h9
        have hok := check_ok2 hC
        have hF : g.formed = 0 := by
          unfold Gr.check at hC
          split at hC
          · cases hC
          · exact hC
        have hplc := partsR_good hok
        have hpl : g.partsR.length ≤ g.lat.length := refTo_len _
        have hatl : g.atP.length = g.lat.length := atTo_len _ _ _
        rw [if_pos hC]
        apply WPA.skip
        apply WPA.seq
        apply WPA.region
        · apply Trace.pu [] (.fieldAddr fl25_0 (.plain rfl) rfl)
          first | apply Trace.pu [_] (.loadLoc1D ty22 (.plain rfl) rfl rfl) | apply Trace.pu [_] (.loadLoc1 ty22 (.plain rfl) rfl rfl) | apply Trace.pu [] (.loadRp1 ty22 (.plain rfl) rfl) | apply Trace.pu [_] (.loadCol1 ty22 (.plain rfl) rfl rfl rfl (fun _ => by omega))
          apply Trace.pu [] (.len rfl Try.underlying22 (.plain rfl) rfl)
          apply Trace.pu [] (.move (.plain rfl))
          apply Trace.ct (callArgs0 (.cons (.plain rfl) (.cons (.plain rfl) .nil))) (plN (by omega) hplc (by omega) (q := g.atP) rfl) en18
          apply Trace.pu [] (.move (.plain rfl))
          apply Trace.pu [] (.extract (.plain rfl) rfl)
          apply Trace.pu [] (.extract (.plain rfl) rfl)
          apply Trace.pu [] (.assign (.plain rfl))
          apply Trace.pu [] (.assign (.plain rfl))
          exact .nil _
        · exact keepOK_of hk hn rfl
        apply WPA.seq
        apply WPA.seq
        apply WPA.region
        · apply Trace.pu [] (.move (.plain rfl))
          apply Trace.pu [] (.not (.plain rfl))
          exact .nil _
        · exact keepOK_of hk hn rfl
        refine WPA.cond rfl (fun hc4 => ?_) (fun hc4 => ?_)
        · cases hc4
        · apply WPA.skip
          apply WPA.seq
          apply WPA.seq
          apply WPA.region
          · apply Trace.pu [] (.move (.plain rfl))
            apply Trace.pu [] (.len rfl Try.underlying22 (.plain rfl) rfl)
            apply Trace.pu [] (.move (.plain rfl))
            exact .nil _
          · exact keepOK_of hk hn rfl
          apply WPA.block
          refine WPA.loop (σ := Nat) (fun v => [(sl 1, .av (.loc 1 0)), (sl 6, .av (.d (intsD g.atP))), (sl 54, .av (iv .i64 (g.atP.length))), (sl 55, .av (iv .i64 (v))), (bk 1, .blk (.data g.ds))]) (fun v => v ≤ g.lat.length) (fun v => g.lat.length - v) 0
            (St.le_cons rfl (St.le_cons rfl (St.le_cons rfl (St.le_cons rfl (St.le_cons rfl (St.le_nil _)))))) (Nat.zero_le _) fun v hv => ?_
          apply WPA.seq
          apply WPA.region
          · apply Trace.pu [] (.cmp (.plain rfl) (.plain rfl) rfl)
            exact .nil _
          · exact keepOK_of hk hn rfl
          apply WPA.seq
          refine WPA.cond rfl (fun hc5 => ?_) (fun hc5 => ?_)
          · have hlv : v < g.lat.length := by
              have : (v : Int) < g.atP.length := of_decide_eq_true hc5
              omega
            have hrl := reachL_len hok hlv
            apply WPA.skip
            apply WPA.seq
            apply WPA.block
            apply WPA.seq
            apply WPA.region
            · apply Trace.pu [] (.move (.plain rfl))
              apply Trace.pu [] (.assign (.plain rfl))
              exact .nil _
            · exact keepOK_of hk hn rfl
            apply WPA.seq
            apply WPA.region
            · first | apply Trace.pu [_] (.loadAllD ty25 (.plain rfl) rfl (by simp)) | apply Trace.pu [_] (.loadLocD ty25 (.plain rfl) rfl (fun _ => by simp)) | apply Trace.pu [_] (.loadLoc ty25 (.plain rfl) rfl (fun _ => Nat.le_of_ble_eq_true rfl)) | apply Trace.pu [] (.loadRp ty25 (.plain rfl) (fun _ => by decide)) | apply Trace.pu [] (.loadRp ty25 (.plain rfl) (fun _ => Nat.le_of_ble_eq_true rfl)) | apply Trace.pu [_] (.loadCol ty25 (.plain rfl) rfl rfl (fun _ => by decide) (fun _ => by omega)) | apply Trace.pu [_] (.loadArr ty25 (.plain rfl) rfl)
              apply Trace.pu [] (.move (.plain rfl))
              apply Trace.ct (callArgs0 (.cons (.plain rfl) (.cons (.plain rfl) .nil))) (reN hz hok hF hlv) en22
              apply Trace.pu [] (.move (.plain rfl))
              apply Trace.pu [] (.extract (.plain rfl) rfl)
              apply Trace.pu [] (.extract (.plain rfl) rfl)
              apply Trace.pu [] (.assign (.plain rfl))
              apply Trace.pu [] (.assign (.plain rfl))
              exact .nil _
            · exact keepOK_of hk hn rfl
            apply WPA.seq
            apply WPA.seq
            apply WPA.region
            · apply Trace.pu [] (.move (.plain rfl))
              apply Trace.pu [] (.cmp (.plain rfl) (.plain rfl) rfl)
              exact .nil _
            · exact keepOK_of hk hn rfl
            refine WPA.cond rfl (fun hc6 => ?_) (fun hc6 => ?_)
            · cases hc6
            · apply WPA.skip
              apply WPA.seq
              apply WPA.region
              · apply Trace.pu [] (.move (.plain rfl))
                apply Trace.pu [] (.len rfl Try.underlying22 (.plain rfl) rfl)
                apply Trace.pu [] (.move (.plain rfl))
                exact .nil _
              · exact keepOK_of hk hn rfl
              apply WPA.block
              refine WPA.loop (σ := Nat) (fun w => [(sl 1, .av (.loc 1 0)), (sl 6, .av (.d (intsD g.atP))), (sl 54, .av (iv .i64 (g.atP.length))), (sl 55, .av (iv .i64 (v))), (sl 8, .av (iv .i64 (v))), (sl 9, .av (.d (intsD (g.reachL v)))), (sl 67, .av (iv .i64 (g.atP.length))), (sl 68, .av (iv .i64 (w))), (bk 1, .blk (.data g.ds))]) (fun w => w ≤ g.lat.length) (fun w => g.lat.length - w) 0
                (St.le_cons rfl (St.le_cons rfl (St.le_cons rfl (St.le_cons rfl (St.le_cons rfl (St.le_cons rfl (St.le_cons rfl (St.le_cons rfl (St.le_cons rfl (St.le_nil _)))))))))) (Nat.zero_le _) fun w hw => ?_
              apply WPA.seq
              apply WPA.region
              · apply Trace.pu [] (.cmp (.plain rfl) (.plain rfl) rfl)
                exact .nil _
              · exact keepOK_of hk hn rfl
              apply WPA.seq
              refine WPA.cond rfl (fun hc7 => ?_) (fun hc7 => ?_)
              · have hlw : w < g.lat.length := by
                  have : (w : Int) < g.atP.length := of_decide_eq_true hc7
                  omega
                have hrw := reachL_len hok hlw
                have hbe := both_eq hok hlv hlw
                apply WPA.skip
                apply WPA.seq
                apply WPA.block
                apply WPA.seq
                apply WPA.region
                · apply Trace.pu [] (.move (.plain rfl))
                  apply Trace.pu [] (.assign (.plain rfl))
                  exact .nil _
                · exact keepOK_of hk hn rfl
                apply WPA.seq
                apply WPA.region
                · first | apply Trace.pu [_] (.loadAllD ty25 (.plain rfl) rfl (by simp)) | apply Trace.pu [_] (.loadLocD ty25 (.plain rfl) rfl (fun _ => by simp)) | apply Trace.pu [_] (.loadLoc ty25 (.plain rfl) rfl (fun _ => Nat.le_of_ble_eq_true rfl)) | apply Trace.pu [] (.loadRp ty25 (.plain rfl) (fun _ => by decide)) | apply Trace.pu [] (.loadRp ty25 (.plain rfl) (fun _ => Nat.le_of_ble_eq_true rfl)) | apply Trace.pu [_] (.loadCol ty25 (.plain rfl) rfl rfl (fun _ => by decide) (fun _ => by omega)) | apply Trace.pu [_] (.loadArr ty25 (.plain rfl) rfl)
                  apply Trace.pu [] (.move (.plain rfl))
                  apply Trace.ct (callArgs0 (.cons (.plain rfl) (.cons (.plain rfl) .nil))) (reN hz hok hF hlw) en22
                  apply Trace.pu [] (.move (.plain rfl))
                  apply Trace.pu [] (.extract (.plain rfl) rfl)
                  apply Trace.pu [] (.extract (.plain rfl) rfl)
                  apply Trace.pu [] (.assign (.plain rfl))
                  apply Trace.pu [] (.assign (.plain rfl))
                  exact .nil _
                · exact keepOK_of hk hn rfl
                apply WPA.seq
                apply WPA.draw mixed
                · apply Trace.pu [] (.move (.plain rfl))
                  apply Trace.pu [] (.cmp (.plain rfl) (.plain rfl) rfl)
                  apply Trace.pu [] (.move (.plain rfl))
                  apply Trace.pg [] rfl (.move (.plain rfl))
                  apply Trace.pg [] rfl (.move (.plain rfl))
                  first | apply Trace.pg [] rfl (.indexRows el22 (.gd rfl (fun h => h)) (.gd rfl (fun h => h)) (fun _ => ⟨by omega, by omega⟩)) | apply Trace.pg [] rfl (.indexOwn el22 (.gd rfl (fun h => h)) (.gd rfl (fun h => h)) (fun _ => ⟨by omega, by omega⟩)) | apply Trace.pg [] rfl (.indexSl el22 (.gd rfl (fun h => h)) (.gd rfl (fun h => h)) (fun _ => ⟨by omega, by omega⟩))
                  first | apply Trace.pg [_] rfl (.loadLoc1D ty3 (.gd rfl (fun h => h)) rfl rfl) | apply Trace.pg [_] rfl (.loadLoc1 ty3 (.gd rfl (fun h => h)) rfl rfl) | apply Trace.pg [] rfl (.loadRp1 ty3 (.gd rfl (fun h => h)) rfl) | apply Trace.pg [_] rfl (.loadCol1 ty3 (.gd rfl (fun h => h)) rfl rfl rfl (fun _ => by omega))
                  apply Trace.pg [] rfl (.move (.plain rfl))
                  apply Trace.pg [] rfl (.move (.plain rfl))
                  first | apply Trace.pg [] rfl (.indexRows el22 (.gd rfl (fun h => h)) (.gd rfl (fun h => h)) (fun _ => ⟨by omega, by omega⟩)) | apply Trace.pg [] rfl (.indexOwn el22 (.gd rfl (fun h => h)) (.gd rfl (fun h => h)) (fun _ => ⟨by omega, by omega⟩)) | apply Trace.pg [] rfl (.indexSl el22 (.gd rfl (fun h => h)) (.gd rfl (fun h => h)) (fun _ => ⟨by omega, by omega⟩))
                  first | apply Trace.pg [_] rfl (.loadLoc1D ty3 (.gd rfl (fun h => h)) rfl rfl) | apply Trace.pg [_] rfl (.loadLoc1 ty3 (.gd rfl (fun h => h)) rfl rfl) | apply Trace.pg [] rfl (.loadRp1 ty3 (.gd rfl (fun h => h)) rfl) | apply Trace.pg [_] rfl (.loadCol1 ty3 (.gd rfl (fun h => h)) rfl rfl rfl (fun _ => by omega))
                  apply Trace.pg [] rfl (.cmp (.gd rfl (fun h => h)) (.gd rfl (fun h => h)) rfl)
                  apply Trace.pg [] rfl (.move (.plain rfl))
                  apply Trace.pg [] rfl (.move (.plain rfl))
                  apply Trace.pg [] rfl (.cmp (.gd rfl (fun h => h)) (.gd rfl (fun h => h)) rfl)
                  apply Trace.pg [] rfl (.move (.gd rfl (fun h => h)))
                  apply Trace.pg [] rfl (.move (.plain rfl))
                  apply Trace.pg [] rfl (.move (.plain rfl))
                  apply Trace.cg rfl (callArgs0 (.cons (.gd rfl (fun h => h)) (.cons (.gd rfl (fun h => h)) .nil))) (fun _ => spec23 (g.reachL v) (by omega) (w : Nat)) en23
                  apply Trace.pg [] rfl (.move (.gd rfl (fun h => h)))
                  apply Trace.pg [] rfl (.move (.plain rfl))
                  apply Trace.pg [] rfl (.move (.plain rfl))
                  apply Trace.cg rfl (callArgs0 (.cons (.gd rfl (fun h => h)) (.cons (.gd rfl (fun h => h)) .nil))) (fun _ => spec23 (g.reachL w) (by omega) (v : Nat)) en23
                  apply Trace.pg [] rfl (.pick (.gd rfl (fun h => h)) (.gd rfl (by simp)) (.plain rfl))
                  apply Trace.pg [] rfl (.pick (.gd rfl (fun h => h)) (.plain rfl) (.gd rfl (by simp)))
                  apply Trace.pg [] rfl (.bne Try.underlying4 (.gd rfl (fun h => h)) (.gd rfl (fun h => h)))
                  apply Trace.pu [] (.pick (.plain rfl) (.plain rfl) (.gd rfl (by simp)))
                  exact .nil _
                · rfl
                · exact keepOK_of hk hn rfl
                refine WPA.cond rfl (fun hc8 => ?_) (fun hc8 => ?_)
                · have h9 : (!(decide (g.atP.getD v 0 = g.atP.getD w 0) == (bif decide ((v : Int) = (w : Int)) then true else (bif decide ((w : Int) ∈ g.reachL v) then decide ((v : Int) ∈ g.reachL w) else false)))) = true := hc8
                  rw [bif_or', bif_and', ← hbe] at h9
                  simp at h9
                · apply WPA.skip
                  apply WPA.region
                  · apply Trace.pu [] (.arith (.plain rfl) (.plain rfl) rfl (fun _ => bd64 (by omega)))
                    apply Trace.pu [] (.move (.plain rfl))
                    exact .nil _
                  · exact keepOK_of hk hn rfl
                  refine ⟨w + 1, by omega, by omega, ?_⟩
                  exact (St.le_cons rfl (St.le_cons rfl (St.le_cons rfl (St.le_cons rfl (St.le_cons rfl (St.le_cons rfl (St.le_cons rfl (St.le_cons (slI (by omega)) (St.le_cons rfl (St.le_nil _))))))))))
              · apply WPA.exit
                apply WPA.region
                · apply Trace.pu [] (.arith (.plain rfl) (.plain rfl) rfl (fun _ => bd64 (by omega)))
                  apply Trace.pu [] (.move (.plain rfl))
                  exact .nil _
                · exact keepOK_of hk hn rfl
                refine ⟨v + 1, by omega, by omega, ?_⟩
                exact (St.le_cons rfl (St.le_cons rfl (St.le_cons rfl (St.le_cons (slI (by omega)) (St.le_cons rfl (St.le_nil _))))))
          · apply WPA.exit
            apply WPA.seq
            apply WPA.seq
            apply WPA.region
            · apply Trace.pu [] (.fieldAddr fl25_1 (.plain rfl) rfl)
              first | apply Trace.pu [_] (.loadLoc1D ty23 (.plain rfl) rfl rfl) | apply Trace.pu [_] (.loadLoc1 ty23 (.plain rfl) rfl rfl) | apply Trace.pu [] (.loadRp1 ty23 (.plain rfl) rfl) | apply Trace.pu [_] (.loadCol1 ty23 (.plain rfl) rfl rfl rfl (fun _ => by omega))
              apply Trace.pu [] (.len rfl Try.underlying23 (.plain rfl) rfl)
              apply Trace.pu [] (.move (.plain rfl))
              exact .nil _
            · exact keepOK_of hk hn rfl
            apply WPA.block
            refine WPA.loop (σ := Nat) (fun i => [(sl 1, .av (.loc 1 0)), (sl 6, .av (.d (intsD g.atP))), (sl 107, .av (.d (edgesD g.es))), (sl 108, .av (iv .i64 (g.es.length))), (sl 109, .av (iv .i64 (i))), (bk 1, .blk (.data g.ds))]) (fun i => i ≤ g.es.length) (fun i => g.es.length - i) 0
              (St.le_cons rfl (St.le_cons rfl (St.le_cons rfl (St.le_cons rfl (St.le_cons rfl (St.le_cons rfl (St.le_nil _))))))) (Nat.zero_le _) fun i hi => ?_
            apply WPA.seq
            apply WPA.region
            · apply Trace.pu [] (.cmp (.plain rfl) (.plain rfl) rfl)
              exact .nil _
            · exact keepOK_of hk hn rfl
            apply WPA.seq
            refine WPA.cond rfl (fun hc9 => ?_) (fun hc9 => ?_)
            · have hlt : i < g.es.length := by simpa using hc9
              obtain ⟨e, he⟩ : ∃ e, g.es.getD i default = e := ⟨_, rfl⟩
              obtain ⟨hem, hef, het, hef0, het0⟩ := he ▸ Gr.edge hok hlt
              have hup := atP_up hok hem
              apply WPA.skip
              apply WPA.seq
              apply WPA.block
              apply WPA.seq
              apply WPA.region
              · apply Trace.pu [] ((Pure.indexRows el23 (.plain rfl) (.plain rfl) (fun _ => ⟨by omega, by omega⟩)).to (y := .rp e.ds) (by show AV.rp (g.es.getD i default).ds = _; rw [he]))
                first | apply Trace.pu [_] (.loadAllD ty43 (.plain rfl) rfl (by simp)) | apply Trace.pu [_] (.loadLocD ty43 (.plain rfl) rfl (fun _ => by simp)) | apply Trace.pu [_] (.loadLoc ty43 (.plain rfl) rfl (fun _ => Nat.le_of_ble_eq_true rfl)) | apply Trace.pu [] (.loadRp ty43 (.plain rfl) (fun _ => by decide)) | apply Trace.pu [] (.loadRp ty43 (.plain rfl) (fun _ => Nat.le_of_ble_eq_true rfl)) | apply Trace.pu [_] (.loadCol ty43 (.plain rfl) rfl rfl (fun _ => by decide) (fun _ => by omega)) | apply Trace.pu [_] (.loadArr ty43 (.plain rfl) rfl)
                apply Trace.alloc 15 [] (.data _) zo43 (cellsAs_data _) rfl
                first | apply Trace.storeD ty43 (.plain rfl) (.plain rfl) rfl rfl (by simp) (by simp [AV.oneB, single]) (by simp) (spliceL_all (by simp)) | apply Trace.storeD ty43 (.plain rfl) (.plain rfl) rfl rfl (by simp) (by simp [AV.oneB, single]) (by simp) rfl | apply Trace.storeDA ty43 (.plain rfl) (.plain rfl) rfl rfl (by simp) (by simp [AV.oneB, single]) (by simp) rfl | apply Trace.storeLoc ty43 (.plain rfl) (.plain rfl) rfl rfl (by simp) (by simp [AV.oneB, single]) (by simp) rfl | apply Trace.storeRow ty43 (.plain rfl) (.plain rfl) rfl rfl rfl rfl (by decide) (by simp [AV.oneB, single]) rfl (by omega)
                exact .nil _
              · exact keepOK_of hk hn rfl
              apply WPA.seq
              apply WPA.draw mixed
              · apply Trace.pu [] (.move (.plain rfl))
                apply Trace.pu [] (.fieldAddr fl43_0 (.plain rfl) rfl)
                first | apply Trace.pu [_] (.loadLoc1D ty3 (.plain rfl) rfl rfl) | apply Trace.pu [_] (.loadLoc1 ty3 (.plain rfl) rfl rfl) | apply Trace.pu [] (.loadRp1 ty3 (.plain rfl) rfl) | apply Trace.pu [_] (.loadCol1 ty3 (.plain rfl) rfl rfl rfl (fun _ => by omega))
                first | apply Trace.pu [] (.indexRows el22 (.plain rfl) (.plain rfl) (fun _ => ⟨by omega, by omega⟩)) | apply Trace.pu [] (.indexOwn el22 (.plain rfl) (.plain rfl) (fun _ => ⟨by omega, by omega⟩)) | apply Trace.pu [] (.indexSl el22 (.plain rfl) (.plain rfl) (fun _ => ⟨by omega, by omega⟩))
                first | apply Trace.pu [_] (.loadLoc1D ty3 (.plain rfl) rfl rfl) | apply Trace.pu [_] (.loadLoc1 ty3 (.plain rfl) rfl rfl) | apply Trace.pu [] (.loadRp1 ty3 (.plain rfl) rfl) | apply Trace.pu [_] (.loadCol1 ty3 (.plain rfl) rfl rfl rfl (fun _ => by omega))
                apply Trace.pu [] (.move (.plain rfl))
                apply Trace.pu [] (.fieldAddr fl43_1 (.plain rfl) rfl)
                first | apply Trace.pu [_] (.loadLoc1D ty3 (.plain rfl) rfl rfl) | apply Trace.pu [_] (.loadLoc1 ty3 (.plain rfl) rfl rfl) | apply Trace.pu [] (.loadRp1 ty3 (.plain rfl) rfl) | apply Trace.pu [_] (.loadCol1 ty3 (.plain rfl) rfl rfl rfl (fun _ => by omega))
                first | apply Trace.pu [] (.indexRows el22 (.plain rfl) (.plain rfl) (fun _ => ⟨by omega, by omega⟩)) | apply Trace.pu [] (.indexOwn el22 (.plain rfl) (.plain rfl) (fun _ => ⟨by omega, by omega⟩)) | apply Trace.pu [] (.indexSl el22 (.plain rfl) (.plain rfl) (fun _ => ⟨by omega, by omega⟩))
                first | apply Trace.pu [_] (.loadLoc1D ty3 (.plain rfl) rfl rfl) | apply Trace.pu [_] (.loadLoc1 ty3 (.plain rfl) rfl rfl) | apply Trace.pu [] (.loadRp1 ty3 (.plain rfl) rfl) | apply Trace.pu [_] (.loadCol1 ty3 (.plain rfl) rfl rfl rfl (fun _ => by omega))
                apply Trace.pu [] (.cmp (.plain rfl) (.plain rfl) rfl)
                exact .nil _
              · rfl
              · exact keepOK_of hk hn rfl
              refine WPA.cond rfl (fun hc10 => ?_) (fun hc10 => ?_)
              · have h9 : g.atP.getD e.t.toNat 0 < g.atP.getD e.f.toNat 0 := of_decide_eq_true hc10
                omega
              · apply WPA.skip
                apply WPA.region
                · apply Trace.pu [] (.arith (.plain rfl) (.plain rfl) rfl (fun _ => bd64 (by omega)))
                  apply Trace.pu [] (.move (.plain rfl))
                  exact .nil _
                · exact keepOK_of hk hn rfl
                refine ⟨i + 1, by omega, by omega, ?_⟩
                exact (St.le_cons rfl (St.le_cons rfl (St.le_cons rfl (St.le_cons rfl (St.le_cons (slI (by omega)) (St.le_cons rfl (St.le_nil _)))))))
            · apply WPA.exit
              apply WPA.seq
              apply WPA.region
              · apply Trace.pu [] (.assign (.plain rfl))
                exact .nil _
              · exact keepOK_of hk hn rfl
              apply WPA.ret
              refine ⟨.inr rfl, ⟨_, (.cons (.tmp rfl) .nil), ?_⟩, by simp [St.get]⟩
              rfl

end Go.Proofs.Ytglokdfdogmmhaa

