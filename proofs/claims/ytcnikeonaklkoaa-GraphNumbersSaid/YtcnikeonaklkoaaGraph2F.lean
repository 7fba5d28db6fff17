/- slices.Reverse of ints; graph.back. -/
import Derived.Test.YtcnikeonaklkoaaGraph1F
namespace Go.Proofs.Ytcnikeonaklkoaa
open Go
set_option linter.unusedVariables false
set_option linter.unusedSimpArgs false
set_option maxRecDepth 10000

/-- A list, its outermost i elements on either side exchanged. -/
def revTo (l : List Int) (i : Nat) : List Int := (List.range l.length).map fun k => if k < i ∨ l.length < k + i + 1 then l.getD (l.length - 1 - k) 0 else l.getD k 0
theorem revTo_length (l : List Int) (i : Nat) : (revTo l i).length = l.length := by simp [revTo]
theorem revTo_at (l : List Int) (i k : Nat) (hk : k < l.length) : (revTo l i).getD k 0 = if k < i ∨ l.length < k + i + 1 then l.getD (l.length - 1 - k) 0 else l.getD k 0 := by
  rw [getD_lt _ _ (by rw [revTo_length]; exact hk)]
  simp only [revTo, List.getElem_map, List.getElem_range]
theorem ext_getD {l m : List Int} (hl : l.length = m.length) (h : ∀ k, k < l.length → l.getD k 0 = m.getD k 0) : l = m := by
  refine List.ext_getElem hl fun k h1 h2 => ?_
  have := h k h1
  rwa [getD_lt _ _ h1, getD_lt _ _ h2] at this
theorem revTo_zero (l : List Int) : revTo l 0 = l := ext_getD (revTo_length l 0) fun k hk => by
  rw [revTo_length] at hk
  rw [revTo_at l 0 k hk, if_neg (by omega)]
theorem revTo_end (l : List Int) (i : Nat) (h : l.length ≤ 2 * i + 1) : revTo l i = l.reverse := ext_getD (by simp [revTo_length]) fun k hk => by
  rw [revTo_length] at hk
  rw [revTo_at l i k hk, getD_lt l.reverse 0 (by simpa using hk), List.getElem_reverse]
  by_cases hc : k < i ∨ l.length < k + i + 1
  · rw [if_pos hc, getD_lt _ _ (by omega)]
  · rw [if_neg hc, getD_lt _ _ hk]
    congr 1; omega
theorem revTo_succ (l : List Int) (i : Nat) (h : 2 * i + 1 < l.length) : revTo l (i + 1) = ((revTo l i).set i ((revTo l i).getD (l.length - 1 - i) 0)).set (l.length - 1 - i) ((revTo l i).getD i 0) := by
  refine ext_getD (by simp [revTo_length]) fun k hk => ?_
  rw [revTo_length] at hk
  rw [getD_set (by rw [List.length_set, revTo_length]; omega), getD_set (by rw [revTo_length]; omega), revTo_at l (i + 1) k hk]
  by_cases h1 : l.length - 1 - i = k
  · rw [if_pos h1, if_pos (by omega), revTo_at l i i (by omega), if_neg (by omega)]
    congr 1; omega
  · rw [if_neg h1]
    by_cases h2 : i = k
    · rw [if_pos h2, if_pos (by omega), revTo_at l i _ (by omega), if_neg (by omega)]
      congr 1; omega
    · rw [if_neg h2, revTo_at l i k hk]
      by_cases h3 : k < i ∨ l.length < k + i + 1
      · rw [if_pos h3, if_pos (by omega)]
      · rw [if_neg h3, if_neg (by omega)]
theorem app_eq64 {n : Nat} {xs ys : List Int} (h : xs = ys) : some (Cont.blk (.app 1 n [.ints .i64 xs])) = some (Cont.blk (.app 1 n [.ints .i64 ys])) := by rw [h]
/-- slices.Reverse[[]int,int] -/
theorem spec26 (xs : List Int) (m : Nat) (hm : xs.length = m) (hx : xs.length ≤ 4611686018427387904) : FnSpec Try.prog 26 [.own 0 m] [(bk 0, .blk (.app 1 m [.ints .i64 xs]))] (.tup []) [(bk 0, .blk (.app 1 m [.ints .i64 xs.reverse]))] [0] := by
  subst hm
  refine fnSpec_of (rs := []) Try.func26 rfl rfl (Nat.le_of_ble_eq_true rfl) (odd_of rfl) fun E hk hn => ?_
  apply WPA.seq
  apply WPA.region
  · apply Trace.pu [] (.move (.plain rfl))
    apply Trace.pu [] (.len rfl Try.underlying22 (.plain rfl) rfl)
    apply Trace.pu [] (.arith (.plain rfl) (.plain rfl) rfl (fun _ => bd64 (by omega)))
    apply Trace.pu [] (.assign (.plain rfl))
    apply Trace.pu [] (.assign (.plain rfl))
    exact .nil _
  · exact keepOK_of hk hn rfl
  apply WPA.block
  refine WPA.loop (σ := Nat) (fun i => [(sl 0, .av (.own 0 xs.length)), (sl 2, .av (iv .i64 (i))), (sl 3, .av (iv .i64 ((xs.length : Int) - 1 - i))), (bk 0, .blk (.app 1 xs.length [.ints .i64 (revTo xs i)]))]) (fun i => i ≤ xs.length) (fun i => xs.length - i) 0
    (St.le_cons rfl (St.le_cons rfl (St.le_cons (by rw [show (xs.length : Int) - 1 - ((0 : Nat) : Int) = (xs.length : Int) - 1 by omega]; rfl) (St.le_cons (by rw [revTo_zero]; rfl) (St.le_nil _))))) (Nat.zero_le _) fun i hi => ?_
  apply WPA.seq
  apply WPA.seq
  apply WPA.region
  · apply Trace.pu [] (.move (.plain rfl))
    apply Trace.pu [] (.move (.plain rfl))
    apply Trace.pu [] (.cmp (.plain rfl) (.plain rfl) rfl)
    exact .nil _
  · exact keepOK_of hk hn rfl
  refine WPA.cond rfl (fun hc1 => ?_) (fun hc1 => ?_)
  · have hlt : (i : Int) < (xs.length : Int) - 1 - i := by simpa using hc1
    have e1 : ((xs.length : Int) - 1 - i).toNat = xs.length - 1 - i := by omega
    apply WPA.skip
    apply WPA.seq
    apply WPA.block
    have hrl := revTo_length xs i
    apply WPA.draw mixed
    · apply Trace.pu [] (.move (.plain rfl))
      apply Trace.pu [] (.move (.plain rfl))
      apply Trace.pu [] (.move (.plain rfl))
      apply Trace.pu [] (.move (.plain rfl))
      apply Trace.pu [] (.move (.plain rfl))
      apply Trace.pu [] (.move (.plain rfl))
      first | apply Trace.pu [] (.indexRows el22 (.plain rfl) (.plain rfl) (fun _ => ⟨by omega, by omega⟩)) | apply Trace.pu [] (.indexOwn el22 (.plain rfl) (.plain rfl) (fun _ => ⟨by omega, by omega⟩)) | apply Trace.pu [] (.indexSl el22 (.plain rfl) (.plain rfl) (fun _ => ⟨by omega, by omega⟩))
      first | apply Trace.pu [_] (.loadLoc1D ty3 (.plain rfl) rfl rfl) | apply Trace.pu [_] (.loadLoc1 ty3 (.plain rfl) rfl rfl) | apply Trace.pu [] (.loadRp1 ty3 (.plain rfl) rfl) | apply Trace.pu [_] (.loadCol1 ty3 (.plain rfl) rfl rfl rfl (fun _ => by omega))
      apply Trace.pu [] (.move (.plain rfl))
      apply Trace.pu [] (.move (.plain rfl))
      first | apply Trace.pu [] (.indexRows el22 (.plain rfl) (.plain rfl) (fun _ => ⟨by omega, by omega⟩)) | apply Trace.pu [] (.indexOwn el22 (.plain rfl) (.plain rfl) (fun _ => ⟨by omega, by omega⟩)) | apply Trace.pu [] (.indexSl el22 (.plain rfl) (.plain rfl) (fun _ => ⟨by omega, by omega⟩))
      first | apply Trace.pu [_] (.loadLoc1D ty3 (.plain rfl) rfl rfl) | apply Trace.pu [_] (.loadLoc1 ty3 (.plain rfl) rfl rfl) | apply Trace.pu [] (.loadRp1 ty3 (.plain rfl) rfl) | apply Trace.pu [_] (.loadCol1 ty3 (.plain rfl) rfl rfl rfl (fun _ => by omega))
      first | apply Trace.pu [] (.indexRows el22 (.plain rfl) (.plain rfl) (fun _ => ⟨by omega, by omega⟩)) | apply Trace.pu [] (.indexOwn el22 (.plain rfl) (.plain rfl) (fun _ => ⟨by omega, by omega⟩)) | apply Trace.pu [] (.indexSl el22 (.plain rfl) (.plain rfl) (fun _ => ⟨by omega, by omega⟩))
      first | apply Trace.storeD ty3 (.plain rfl) (.plain rfl) rfl rfl rfl (by simp [AV.oneB, single]) (Nat.le_of_ble_eq_true rfl) rfl | apply Trace.storeDA ty3 (.plain rfl) (.plain rfl) rfl rfl rfl (by simp [AV.oneB, single]) (Nat.le_of_ble_eq_true rfl) rfl | apply Trace.storeLoc ty3 (.plain rfl) (.plain rfl) rfl rfl rfl (by simp [AV.oneB, single]) (Nat.le_of_ble_eq_true rfl) rfl | apply Trace.storeRow ty3 (.plain rfl) (.plain rfl) rfl rfl rfl rfl (by decide) (by simp [AV.oneB, single]) rfl (by omega)
      first | apply Trace.pu [] (.indexRows el22 (.plain rfl) (.plain rfl) (fun _ => ⟨by omega, by omega⟩)) | apply Trace.pu [] (.indexOwn el22 (.plain rfl) (.plain rfl) (fun _ => ⟨by omega, by omega⟩)) | apply Trace.pu [] (.indexSl el22 (.plain rfl) (.plain rfl) (fun _ => ⟨by omega, by omega⟩))
      first | apply Trace.storeD ty3 (.plain rfl) (.plain rfl) rfl rfl rfl (by simp [AV.oneB, single]) (Nat.le_of_ble_eq_true rfl) rfl | apply Trace.storeDA ty3 (.plain rfl) (.plain rfl) rfl rfl rfl (by simp [AV.oneB, single]) (Nat.le_of_ble_eq_true rfl) rfl | apply Trace.storeLoc ty3 (.plain rfl) (.plain rfl) rfl rfl rfl (by simp [AV.oneB, single]) (Nat.le_of_ble_eq_true rfl) rfl | apply Trace.storeRow ty3 (.plain rfl) (.plain rfl) rfl rfl rfl rfl (by decide) (by simp [AV.oneB, single]) rfl (by omega)
      exact .nil _
    · rfl
    · exact keepOK_of hk hn rfl
    apply WPA.region
    · apply Trace.pu [] (.move (.plain rfl))
      apply Trace.pu [] (.arith (.plain rfl) (.plain rfl) rfl (fun _ => bd64 (by omega)))
      apply Trace.pu [] (.move (.plain rfl))
      apply Trace.pu [] (.arith (.plain rfl) (.plain rfl) rfl (fun _ => bd64 (by omega)))
      apply Trace.pu [] (.assign (.plain rfl))
      apply Trace.pu [] (.assign (.plain rfl))
      exact .nil _
    · exact keepOK_of hk hn rfl
    exact ⟨i + 1, by omega, by omega, St.le_cons rfl (St.le_cons (iv_eq (by omega)) (St.le_cons (iv_eq (by omega)) (St.le_cons (app_eq64 (by rw [revTo_succ xs i (by omega)]; simp [e1])) (St.le_nil _))))⟩
  · have hge : ¬ ((i : Int) < (xs.length : Int) - 1 - i) := by simpa using hc1
    apply WPA.exit
    refine ⟨.inl rfl, ⟨_, (.nil), ?_⟩, blks_of (.cons (app_eq64 (revTo_end xs i (by omega))) .nil)⟩
    rfl

/-- soundpost/graph.back -/
theorem back1 (g : Gr) (nb : Nat) (by_ : List Int) (x : Int) : FnSpec Try.prog 25 [g.av, .d (rowsD 1 nb [.ints .i64 by_]), iv .i64 x] [] (.fn 30 [.loc 61 0, .loc 62 0, .loc 60 0]) [(bk 60, .blk (.data g.ds)), (bk 61, .blk (.data [rowsD 1 nb [.ints .i64 by_]])), (bk 62, .blk (.data [.v (.int .i64 x)]))] [] := by
  refine fnSpec_of (rs := [.tmp 6]) Try.func25 rfl rfl (Nat.le_of_ble_eq_true rfl) (by simp [St.get]) fun E hk hn => ?_
  apply WPA.seq
  apply WPA.region
  · apply Trace.boxD 60 [] (.plain rfl) rfl rfl
    apply Trace.boxD 61 [] (.plain rfl) rfl rfl
    apply Trace.boxD 62 [] (.plain rfl) rfl rfl
    apply Trace.pu [] (.assign (.plain rfl))
    exact .nil _
  · exact keepOK_of hk hn rfl
  apply WPA.seq
  apply WPA.region
  · apply Trace.pu [] (.funcL (.cons (.plain rfl) (.cons (.plain rfl) (.cons (.plain rfl) .nil))))
    apply Trace.pu [] (.assign (.plain rfl))
    exact .nil _
  · exact keepOK_of hk hn rfl
  apply WPA.ret
  refine ⟨.inr rfl, ⟨_, (.cons (.tmp rfl) .nil), ?_⟩, blks_of (.cons rfl (.cons rfl (.cons rfl .nil)))⟩
  rfl

/-- soundpost/graph.back -/
theorem back2 (g : Gr) (nb : Nat) (by_ : List Int) (x : Int) : FnSpec Try.prog 25 [g.av, .d (rowsD 1 nb [.ints .i64 by_]), iv .i64 x] [] (.fn 30 [.loc 64 0, .loc 65 0, .loc 63 0]) [(bk 63, .blk (.data g.ds)), (bk 64, .blk (.data [rowsD 1 nb [.ints .i64 by_]])), (bk 65, .blk (.data [.v (.int .i64 x)]))] [] := by
  refine fnSpec_of (rs := [.tmp 6]) Try.func25 rfl rfl (Nat.le_of_ble_eq_true rfl) (by simp [St.get]) fun E hk hn => ?_
  apply WPA.seq
  apply WPA.region
  · apply Trace.boxD 63 [] (.plain rfl) rfl rfl
    apply Trace.boxD 64 [] (.plain rfl) rfl rfl
    apply Trace.boxD 65 [] (.plain rfl) rfl rfl
    apply Trace.pu [] (.assign (.plain rfl))
    exact .nil _
  · exact keepOK_of hk hn rfl
  apply WPA.seq
  apply WPA.region
  · apply Trace.pu [] (.funcL (.cons (.plain rfl) (.cons (.plain rfl) (.cons (.plain rfl) .nil))))
    apply Trace.pu [] (.assign (.plain rfl))
    exact .nil _
  · exact keepOK_of hk hn rfl
  apply WPA.ret
  refine ⟨.inr rfl, ⟨_, (.cons (.tmp rfl) .nil), ?_⟩, blks_of (.cons rfl (.cons rfl (.cons rfl .nil)))⟩
  rfl

end Go.Proofs.Ytcnikeonaklkoaa

