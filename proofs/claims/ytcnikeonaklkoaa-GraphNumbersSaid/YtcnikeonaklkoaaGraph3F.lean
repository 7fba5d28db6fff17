/- The iterator of graph.back, over the two loops that range over it. -/
import Derived.Test.YtcnikeonaklkoaaGraph2F
namespace Go.Proofs.Ytcnikeonaklkoaa
open Go
set_option linter.unusedVariables false
set_option linter.unusedSimpArgs false
set_option maxRecDepth 10000

theorem datI {x y : Int} (h : x = y) : some (Cont.blk (.data [.v (.int .i64 x)])) = some (Cont.blk (.data [.v (.int .i64 y)])) := by rw [h]
theorem lpE {h : LH} {pe pe' : Option Code} {ts : List (Nat × AV)} (e : pe = pe') : some (Cont.blk (.lp (h.out pe) ts)) = some (Cont.blk (.lp (h.out pe') ts)) := by rw [e]
theorem slI {k : IntKind} {x y : Int} (h : x = y) : some (Cont.av (iv k x)) = some (Cont.av (iv k y)) := by rw [h]
/-- What lies at each round: of the first loop, of the second. -/
abbrev Cs1 (g : Gr) (s : BF) (v k : Nat) : St := [(bk 1, .blk (.data g.ds)), (bk 5, .blk (.data [.v (.int .i64 g.lat.length)])), (bk 8, .blk (.data [.v (.int .i64 (g.back s k v : Nat))])), (bk 12, .blk (.data [.v (.int .i64 (min k g.lat.length : Nat))]))]
abbrev ts1 : List (Nat × AV) := [(1, .loc 1 0), (5, .loc 5 0), (8, .loc 8 0), (12, .loc 12 0)]
abbrev pe1 (n k : Nat) : Option Code := if k = n then some (.exit 4) else none
abbrev lh1 (ac bo : Code) : LH := ⟨.ready, none, #[87], ac, bo, 119⟩
abbrev gone (g : Gr) (s : BF) (x k : Nat) : List Int := (List.range k).map fun i => s.B (g.back s i x)
abbrev Cs2 (g : Gr) (s : BF) (x k : Nat) : St := [(bk 1, .blk (.data g.ds)), (bk 8, .blk (.data [.v (.int .i64 x)])), (bk 2, .blk (.cells [.own 90 k])), (bk 90, .blk (.app 1 k [.ints .i64 (gone g s x k)]))]
abbrev ts2 : List (Nat × AV) := [(1, .loc 1 0), (8, .loc 8 0), (2, .loc 2 0)]
abbrev pe2 (g : Gr) (s : BF) (x k : Nat) : Option Code := if g.back s (k + 1) x = x then some (.exit 6) else none
abbrev lh2 (ac bo : Code) : LH := ⟨.ready, none, #[103], ac, bo, 119⟩

theorem bf_facts {g : Gr} (h : g.OK) {s : BF} (hb : s.by_.length = g.lat.length) {v : Nat} (o : OnWay g s v) : v < s.by_.length ∧ 0 ≤ s.by_.getD v 0 ∧ (s.by_.getD v 0).toNat < g.es.length ∧ (g.es.getD (s.by_.getD v 0).toNat default).f = ((g.pr s v : Nat) : Int) := by
  obtain ⟨hlt, j, hj, hB, _⟩ := o
  have hB : s.by_.getD v 0 = (j : Int) := hB
  refine ⟨by omega, by rw [hB]; omega, by rw [hB]; simpa using hj, ?_⟩
  unfold Gr.pr
  show _ = (((g.es.getD (s.by_.getD v 0).toNat default).f.toNat : Nat) : Int)
  have h2 := Gr.edge h (j := (s.by_.getD v 0).toNat) (by rw [hB]; simpa using hj)
  omega
/-- soundpost/graph.back$1 -/
theorem it1 {g : Gr} (h : g.OK) {s : BF} (hb : s.by_.length = g.lat.length) {v : Nat} (hw : ∀ k, OnWay g s (g.back s k v)) {ac bo : Code} (hY : ∀ k, k ≤ g.lat.length → YSpec Try.prog 70 [iv .i64 (s.B (g.back s k v))] ((bk 70, .blk (.lp (lh1 ac bo) ts1)) :: Cs1 g s v k) (bv (pe1 g.lat.length k).isNone) ((bk 70, .blk (.lp ((lh1 ac bo).out (pe1 g.lat.length k)) ts1)) :: Cs1 g s v (k + 1)) [70, 1, 5, 8, 12]) : FnSpec Try.prog 30 [.yld 70, .loc 61 0, .loc 62 0, .loc 60 0] ((bk 70, .blk (.lp (lh1 ac bo) ts1)) :: (bk 60, .blk (.data g.ds)) :: (bk 61, .blk (.data [rowsD 1 g.lat.length [.ints .i64 s.by_]])) :: (bk 62, .blk (.data [.v (.int .i64 (v : Nat))])) :: Cs1 g s v 0) (.tup []) ((bk 70, .blk (.lp ((lh1 ac bo).out (some (.exit 4))) ts1)) :: Cs1 g s v (g.lat.length + 1)) [70, 1, 5, 8, 12] := by
  have hn1 := h.n
  have hn2 := h.m
  have hsp := hb
  refine fnSpec_of (rs := []) Try.func30 rfl rfl (Nat.le_of_ble_eq_true rfl) (odd_of rfl) fun E hk hn => ?_
  apply WPA.block
  refine WPA.loop (σ := Nat) (fun i => [(sl 0, .av (.yld 70)), (sl 1, .av (.loc 61 0)), (sl 2, .av (.loc 62 0)), (sl 3, .av (.loc 60 0)), (bk 60, .blk (.data g.ds)), (bk 61, .blk (.data [rowsD 1 g.lat.length [.ints .i64 s.by_]])), (bk 62, .blk (.data [.v (.int .i64 (g.back s i v : Nat))])), (bk 70, .blk (.lp (lh1 ac bo) ts1)), (bk 1, .blk (.data g.ds)), (bk 5, .blk (.data [.v (.int .i64 g.lat.length)])), (bk 8, .blk (.data [.v (.int .i64 (g.back s i v : Nat))])), (bk 12, .blk (.data [.v (.int .i64 (min i g.lat.length : Nat))]))]) (fun i => i ≤ g.lat.length) (fun i => g.lat.length - i) 0
    (St.le_cons rfl (St.le_cons rfl (St.le_cons rfl (St.le_cons rfl (St.le_cons rfl (St.le_cons rfl (St.le_cons rfl (St.le_cons rfl (St.le_cons rfl (St.le_cons rfl (St.le_cons rfl (St.le_cons rfl (St.le_nil _))))))))))))) (Nat.zero_le _) fun i hi => ?_
  apply WPA.seq
  apply WPA.seq
  have ho := hw i
  obtain ⟨hf1, hf2, hf3, hf4⟩ := bf_facts h hb ho
  have hbi : s.by_.getD (g.back s i v) 0 = s.B (g.back s i v) := rfl
  apply WPA.region
  · apply Trace.pu [] (.move (.plain rfl))
    first | apply Trace.pu [_] (.loadLoc1D ty22 (.plain rfl) rfl rfl) | apply Trace.pu [_] (.loadLoc1 ty22 (.plain rfl) rfl rfl) | apply Trace.pu [] (.loadRp1 ty22 (.plain rfl) rfl) | apply Trace.pu [_] (.loadCol1 ty22 (.plain rfl) rfl rfl rfl (fun _ => by omega))
    first | apply Trace.pu [_] (.loadLoc1D ty3 (.plain rfl) rfl rfl) | apply Trace.pu [_] (.loadLoc1 ty3 (.plain rfl) rfl rfl) | apply Trace.pu [] (.loadRp1 ty3 (.plain rfl) rfl) | apply Trace.pu [_] (.loadCol1 ty3 (.plain rfl) rfl rfl rfl (fun _ => by omega))
    first | apply Trace.pu [] (.indexRows el22 (.plain rfl) (.plain rfl) (fun _ => ⟨by omega, by omega⟩)) | apply Trace.pu [] (.indexOwn el22 (.plain rfl) (.plain rfl) (fun _ => ⟨by omega, by omega⟩)) | apply Trace.pu [] (.indexSl el22 (.plain rfl) (.plain rfl) (fun _ => ⟨by omega, by omega⟩))
    first | apply Trace.pu [_] (.loadLoc1D ty3 (.plain rfl) rfl rfl) | apply Trace.pu [_] (.loadLoc1 ty3 (.plain rfl) rfl rfl) | apply Trace.pu [] (.loadRp1 ty3 (.plain rfl) rfl) | apply Trace.pu [_] (.loadCol1 ty3 (.plain rfl) rfl rfl rfl (fun _ => by omega))
    apply Trace.cyG (gs := []) [] [bk 70, bk 1, bk 5, bk 8, bk 12] (yieldArgs (.plain rfl) (.cons (.plain rfl) .nil)) (hY i hi) rfl (.cons rfl (.cons rfl (.cons rfl (.cons rfl (.cons rfl (.nil)))))) rfl rfl
    exact .nil _
  · exact keepOK_of hk hn rfl
  refine WPA.cond rfl (fun hc1 => ?_) (fun hc1 => ?_)
  · have hin : i ≠ g.lat.length := fun he => by simp [pe1, he] at hc1
    have hpe : pe1 g.lat.length i = none := if_neg hin
    apply WPA.skip
    apply WPA.block
    have hf2t : 0 ≤ s.by_.getD (((g.back s i v : Nat) : Int)).toNat 0 := hf2
    have hf3t : (s.by_.getD (((g.back s i v : Nat) : Int)).toNat 0).toNat < g.es.length := hf3
    apply WPA.draw mixed
    · apply Trace.pu [] (.fieldAddr fl25_1 (.plain rfl) rfl)
      first | apply Trace.pu [_] (.loadLoc1D ty23 (.plain rfl) rfl rfl) | apply Trace.pu [_] (.loadLoc1 ty23 (.plain rfl) rfl rfl) | apply Trace.pu [] (.loadRp1 ty23 (.plain rfl) rfl) | apply Trace.pu [_] (.loadCol1 ty23 (.plain rfl) rfl rfl rfl (fun _ => by omega))
      first | apply Trace.pu [_] (.loadLoc1D ty22 (.plain rfl) rfl rfl) | apply Trace.pu [_] (.loadLoc1 ty22 (.plain rfl) rfl rfl) | apply Trace.pu [] (.loadRp1 ty22 (.plain rfl) rfl) | apply Trace.pu [_] (.loadCol1 ty22 (.plain rfl) rfl rfl rfl (fun _ => by omega))
      first | apply Trace.pu [_] (.loadLoc1D ty3 (.plain rfl) rfl rfl) | apply Trace.pu [_] (.loadLoc1 ty3 (.plain rfl) rfl rfl) | apply Trace.pu [] (.loadRp1 ty3 (.plain rfl) rfl) | apply Trace.pu [_] (.loadCol1 ty3 (.plain rfl) rfl rfl rfl (fun _ => by omega))
      first | apply Trace.pu [] (.indexRows el22 (.plain rfl) (.plain rfl) (fun _ => ⟨by omega, by omega⟩)) | apply Trace.pu [] (.indexOwn el22 (.plain rfl) (.plain rfl) (fun _ => ⟨by omega, by omega⟩)) | apply Trace.pu [] (.indexSl el22 (.plain rfl) (.plain rfl) (fun _ => ⟨by omega, by omega⟩))
      first | apply Trace.pu [_] (.loadLoc1D ty3 (.plain rfl) rfl rfl) | apply Trace.pu [_] (.loadLoc1 ty3 (.plain rfl) rfl rfl) | apply Trace.pu [] (.loadRp1 ty3 (.plain rfl) rfl) | apply Trace.pu [_] (.loadCol1 ty3 (.plain rfl) rfl rfl rfl (fun _ => by omega))
      first | apply Trace.pu [] (.indexRows el23 (.plain rfl) (.plain rfl) (fun _ => ⟨by omega, by omega⟩)) | apply Trace.pu [] (.indexOwn el23 (.plain rfl) (.plain rfl) (fun _ => ⟨by omega, by omega⟩)) | apply Trace.pu [] (.indexSl el23 (.plain rfl) (.plain rfl) (fun _ => ⟨by omega, by omega⟩))
      apply Trace.pu [] (.fieldAddr fl40_0 (.plain rfl) rfl)
      first | apply Trace.pu [_] (.loadLoc1D ty3 (.plain rfl) rfl rfl) | apply Trace.pu [_] (.loadLoc1 ty3 (.plain rfl) rfl rfl) | apply Trace.pu [] (.loadRp1 ty3 (.plain rfl) rfl) | apply Trace.pu [_] (.loadCol1 ty3 (.plain rfl) rfl rfl rfl (fun _ => by omega))
      first | apply Trace.storeD ty3 (.plain rfl) (.plain rfl) rfl rfl rfl (by simp [AV.oneB, single]) (Nat.le_of_ble_eq_true rfl) rfl | apply Trace.storeDA ty3 (.plain rfl) (.plain rfl) rfl rfl rfl (by simp [AV.oneB, single]) (Nat.le_of_ble_eq_true rfl) rfl | apply Trace.storeLoc ty3 (.plain rfl) (.plain rfl) rfl rfl rfl (by simp [AV.oneB, single]) (Nat.le_of_ble_eq_true rfl) rfl | apply Trace.storeRow ty3 (.plain rfl) (.plain rfl) rfl rfl rfl rfl (by decide) (by simp [AV.oneB, single]) rfl (by omega)
      exact .nil _
    · rfl
    · exact keepOK_of hk hn rfl
    exact ⟨i + 1, by omega, by omega, St.le_cons rfl (St.le_cons rfl (St.le_cons rfl (St.le_cons rfl (St.le_cons rfl (St.le_cons rfl (St.le_cons (datI hf4) (St.le_cons (lpE hpe) (St.le_cons rfl (St.le_cons rfl (St.le_cons rfl (St.le_cons rfl (St.le_nil _))))))))))))⟩
  · have hin : i = g.lat.length := by
      by_cases he : i = g.lat.length
      · exact he
      · simp [pe1, he] at hc1
    apply WPA.exit
    refine ⟨.inl rfl, ⟨_, (.nil), ?_⟩, blks_of (.cons (lpE (if_pos hin)) (.cons rfl (.cons rfl (.cons (by rw [hin]; rfl) (.cons (by rw [hin]; rfl) .nil)))))⟩
    rfl

/-- soundpost/graph.back$1 -/
theorem it2 {g : Gr} (h : g.OK) {s : BF} (hb : s.by_.length = g.lat.length) {x p : Nat} (hp : 0 < p) (hpx : g.back s p x = x) (hmin : ∀ k, 0 < k → k < p → g.back s k x ≠ x) (hw : ∀ k, OnWay g s (g.back s k x)) {ac bo : Code} (hY : ∀ k, k ≤ p - 1 → YSpec Try.prog 71 [iv .i64 (s.B (g.back s k x))] ((bk 71, .blk (.lp (lh2 ac bo) ts2)) :: Cs2 g s x k) (bv (pe2 g s x k).isNone) ((bk 71, .blk (.lp ((lh2 ac bo).out (pe2 g s x k)) ts2)) :: Cs2 g s x (k + 1)) [71, 1, 8, 2]) : FnSpec Try.prog 30 [.yld 71, .loc 64 0, .loc 65 0, .loc 63 0] ((bk 71, .blk (.lp (lh2 ac bo) ts2)) :: (bk 63, .blk (.data g.ds)) :: (bk 64, .blk (.data [rowsD 1 g.lat.length [.ints .i64 s.by_]])) :: (bk 65, .blk (.data [.v (.int .i64 (x : Nat))])) :: Cs2 g s x 0) (.tup []) ((bk 71, .blk (.lp ((lh2 ac bo).out (some (.exit 6))) ts2)) :: Cs2 g s x p) [71, 1, 8, 2] := by
  have hn1 := h.n
  have hn2 := h.m
  have hsp := hb
  refine fnSpec_of (rs := []) Try.func30 rfl rfl (Nat.le_of_ble_eq_true rfl) (odd_of rfl) fun E hk hn => ?_
  apply WPA.block
  refine WPA.loop (σ := Nat) (fun i => [(sl 0, .av (.yld 71)), (sl 1, .av (.loc 64 0)), (sl 2, .av (.loc 65 0)), (sl 3, .av (.loc 63 0)), (bk 63, .blk (.data g.ds)), (bk 64, .blk (.data [rowsD 1 g.lat.length [.ints .i64 s.by_]])), (bk 65, .blk (.data [.v (.int .i64 (g.back s i x : Nat))])), (bk 71, .blk (.lp (lh2 ac bo) ts2)), (bk 1, .blk (.data g.ds)), (bk 8, .blk (.data [.v (.int .i64 x)])), (bk 2, .blk (.cells [.own 90 i])), (bk 90, .blk (.app 1 i [.ints .i64 (gone g s x i)]))]) (fun i => i < p) (fun i => p - i) 0
    (St.le_cons rfl (St.le_cons rfl (St.le_cons rfl (St.le_cons rfl (St.le_cons rfl (St.le_cons rfl (St.le_cons rfl (St.le_cons rfl (St.le_cons rfl (St.le_cons rfl (St.le_cons rfl (St.le_cons rfl (St.le_nil _))))))))))))) hp fun i hi => ?_
  apply WPA.seq
  apply WPA.seq
  have ho := hw i
  obtain ⟨hf1, hf2, hf3, hf4⟩ := bf_facts h hb ho
  have hbi : s.by_.getD (g.back s i x) 0 = s.B (g.back s i x) := rfl
  apply WPA.region
  · apply Trace.pu [] (.move (.plain rfl))
    first | apply Trace.pu [_] (.loadLoc1D ty22 (.plain rfl) rfl rfl) | apply Trace.pu [_] (.loadLoc1 ty22 (.plain rfl) rfl rfl) | apply Trace.pu [] (.loadRp1 ty22 (.plain rfl) rfl) | apply Trace.pu [_] (.loadCol1 ty22 (.plain rfl) rfl rfl rfl (fun _ => by omega))
    first | apply Trace.pu [_] (.loadLoc1D ty3 (.plain rfl) rfl rfl) | apply Trace.pu [_] (.loadLoc1 ty3 (.plain rfl) rfl rfl) | apply Trace.pu [] (.loadRp1 ty3 (.plain rfl) rfl) | apply Trace.pu [_] (.loadCol1 ty3 (.plain rfl) rfl rfl rfl (fun _ => by omega))
    first | apply Trace.pu [] (.indexRows el22 (.plain rfl) (.plain rfl) (fun _ => ⟨by omega, by omega⟩)) | apply Trace.pu [] (.indexOwn el22 (.plain rfl) (.plain rfl) (fun _ => ⟨by omega, by omega⟩)) | apply Trace.pu [] (.indexSl el22 (.plain rfl) (.plain rfl) (fun _ => ⟨by omega, by omega⟩))
    first | apply Trace.pu [_] (.loadLoc1D ty3 (.plain rfl) rfl rfl) | apply Trace.pu [_] (.loadLoc1 ty3 (.plain rfl) rfl rfl) | apply Trace.pu [] (.loadRp1 ty3 (.plain rfl) rfl) | apply Trace.pu [_] (.loadCol1 ty3 (.plain rfl) rfl rfl rfl (fun _ => by omega))
    apply Trace.cyG (gs := []) [90] [bk 71, bk 1, bk 8, bk 2, bk 90] (yieldArgs (.plain rfl) (.cons (.plain rfl) .nil)) (hY i (by omega)) rfl (.cons rfl (.cons rfl (.cons rfl (.cons rfl (.cons rfl (.nil)))))) rfl rfl
    exact .nil _
  · exact keepOK_of hk hn rfl
  refine WPA.cond rfl (fun hc1 => ?_) (fun hc1 => ?_)
  · have hin : g.back s (i + 1) x ≠ x := fun he => by simp [pe2, he] at hc1
    have hpe : pe2 g s x i = none := if_neg hin
    apply WPA.skip
    apply WPA.block
    have hf2t : 0 ≤ s.by_.getD (((g.back s i x : Nat) : Int)).toNat 0 := hf2
    have hf3t : (s.by_.getD (((g.back s i x : Nat) : Int)).toNat 0).toNat < g.es.length := hf3
    apply WPA.draw mixed
    · apply Trace.pu [] (.fieldAddr fl25_1 (.plain rfl) rfl)
      first | apply Trace.pu [_] (.loadLoc1D ty23 (.plain rfl) rfl rfl) | apply Trace.pu [_] (.loadLoc1 ty23 (.plain rfl) rfl rfl) | apply Trace.pu [] (.loadRp1 ty23 (.plain rfl) rfl) | apply Trace.pu [_] (.loadCol1 ty23 (.plain rfl) rfl rfl rfl (fun _ => by omega))
      first | apply Trace.pu [_] (.loadLoc1D ty22 (.plain rfl) rfl rfl) | apply Trace.pu [_] (.loadLoc1 ty22 (.plain rfl) rfl rfl) | apply Trace.pu [] (.loadRp1 ty22 (.plain rfl) rfl) | apply Trace.pu [_] (.loadCol1 ty22 (.plain rfl) rfl rfl rfl (fun _ => by omega))
      first | apply Trace.pu [_] (.loadLoc1D ty3 (.plain rfl) rfl rfl) | apply Trace.pu [_] (.loadLoc1 ty3 (.plain rfl) rfl rfl) | apply Trace.pu [] (.loadRp1 ty3 (.plain rfl) rfl) | apply Trace.pu [_] (.loadCol1 ty3 (.plain rfl) rfl rfl rfl (fun _ => by omega))
      first | apply Trace.pu [] (.indexRows el22 (.plain rfl) (.plain rfl) (fun _ => ⟨by omega, by omega⟩)) | apply Trace.pu [] (.indexOwn el22 (.plain rfl) (.plain rfl) (fun _ => ⟨by omega, by omega⟩)) | apply Trace.pu [] (.indexSl el22 (.plain rfl) (.plain rfl) (fun _ => ⟨by omega, by omega⟩))
      first | apply Trace.pu [_] (.loadLoc1D ty3 (.plain rfl) rfl rfl) | apply Trace.pu [_] (.loadLoc1 ty3 (.plain rfl) rfl rfl) | apply Trace.pu [] (.loadRp1 ty3 (.plain rfl) rfl) | apply Trace.pu [_] (.loadCol1 ty3 (.plain rfl) rfl rfl rfl (fun _ => by omega))
      first | apply Trace.pu [] (.indexRows el23 (.plain rfl) (.plain rfl) (fun _ => ⟨by omega, by omega⟩)) | apply Trace.pu [] (.indexOwn el23 (.plain rfl) (.plain rfl) (fun _ => ⟨by omega, by omega⟩)) | apply Trace.pu [] (.indexSl el23 (.plain rfl) (.plain rfl) (fun _ => ⟨by omega, by omega⟩))
      apply Trace.pu [] (.fieldAddr fl40_0 (.plain rfl) rfl)
      first | apply Trace.pu [_] (.loadLoc1D ty3 (.plain rfl) rfl rfl) | apply Trace.pu [_] (.loadLoc1 ty3 (.plain rfl) rfl rfl) | apply Trace.pu [] (.loadRp1 ty3 (.plain rfl) rfl) | apply Trace.pu [_] (.loadCol1 ty3 (.plain rfl) rfl rfl rfl (fun _ => by omega))
      first | apply Trace.storeD ty3 (.plain rfl) (.plain rfl) rfl rfl rfl (by simp [AV.oneB, single]) (Nat.le_of_ble_eq_true rfl) rfl | apply Trace.storeDA ty3 (.plain rfl) (.plain rfl) rfl rfl rfl (by simp [AV.oneB, single]) (Nat.le_of_ble_eq_true rfl) rfl | apply Trace.storeLoc ty3 (.plain rfl) (.plain rfl) rfl rfl rfl (by simp [AV.oneB, single]) (Nat.le_of_ble_eq_true rfl) rfl | apply Trace.storeRow ty3 (.plain rfl) (.plain rfl) rfl rfl rfl rfl (by decide) (by simp [AV.oneB, single]) rfl (by omega)
      exact .nil _
    · rfl
    · exact keepOK_of hk hn rfl
    exact ⟨i + 1, (by have h9 : i + 1 ≠ p := (fun e => hin (e ▸ hpx)); omega), by omega, St.le_cons rfl (St.le_cons rfl (St.le_cons rfl (St.le_cons rfl (St.le_cons rfl (St.le_cons rfl (St.le_cons (datI hf4) (St.le_cons (lpE hpe) (St.le_cons rfl (St.le_cons rfl (St.le_cons rfl (St.le_cons rfl (St.le_nil _))))))))))))⟩
  · have hin : i + 1 = p := by
      by_cases he : i + 1 = p
      · exact he
      · have := hmin (i + 1) (by omega) (by omega)
        simp [pe2, this] at hc1
    apply WPA.exit
    refine ⟨.inl rfl, ⟨_, (.nil), ?_⟩, blks_of (.cons (lpE (if_pos (by rw [hin]; exact hpx))) (.cons rfl (.cons rfl (.cons (by rw [← hin]; rfl) (.cons (by rw [← hin]; rfl) .nil)))))⟩
    rfl

end Go.Proofs.Ytcnikeonaklkoaa

