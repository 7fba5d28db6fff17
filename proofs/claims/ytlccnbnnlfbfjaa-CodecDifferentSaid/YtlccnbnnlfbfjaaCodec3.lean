/- The writers of codec. -/
import Derived.Test.YtlccnbnnlfbfjaaCodec2
import Derived.Test.YtlccnbnnlfbfjaaCodecEnc
namespace Go.Proofs.Ytlccnbnnlfbfjaa
open Go
set_option linter.unusedVariables false
set_option linter.unusedSimpArgs false
set_option maxRecDepth 10000

/-- What the table of writers holds. -/
abbrev writers : List AV := [.d (.v .nilFunc), .fn 37 [], .fn 40 [], .fn 41 [.loc 1 0]]
abbrev table : St := [(bk 0, .blk (.cells writers)), (bk 1, .blk (.cells [.loc 0 0]))]
/-- soundpost/codec.newWriter -/
theorem spec26  : FnSpec Try.prog 26 [] [] (.loc 0 0) table [] := by
  refine fnSpec_of (rs := [.tmp 0]) Try.func26 rfl rfl (Nat.le_of_ble_eq_true rfl) (by simp [St.get]) fun E hk hn => ?_
  apply WPA.seq
  apply WPA.region
  · apply Trace.pu [] (.assign (.plain rfl))
    exact .nil _
  · exact keepOK_of hk hn rfl
  apply WPA.seq
  apply WPA.region
  · apply Trace.pu [] (.build zo66 pl66 (.nil _ _) rfl)
    apply Trace.boxD 0 [] (.plain rfl) rfl rfl
    apply Trace.alloc 1 [] (.data _) zo50 (cellsAs_data _) rfl
    first | apply Trace.storeD ty50 (.plain rfl) (.plain rfl) rfl rfl rfl (by simp [AV.oneB, single]) (Nat.le_of_ble_eq_true rfl) rfl | apply Trace.storeDA ty50 (.plain rfl) (.plain rfl) rfl rfl rfl (by simp [AV.oneB, single]) (Nat.le_of_ble_eq_true rfl) rfl | apply Trace.storeLoc ty50 (.plain rfl) (.plain rfl) rfl rfl rfl (by simp [AV.oneB, single]) (Nat.le_of_ble_eq_true rfl) rfl | apply Trace.storeRow ty50 (.plain rfl) (.plain rfl) rfl rfl rfl rfl (by decide) (by simp [AV.oneB, single]) rfl (by omega)
    exact .nil _
  · exact keepOK_of hk hn rfl
  apply WPA.seq
  apply WPA.region
  · first | apply Trace.pu [_] (.loadLoc1D ty50 (.plain rfl) rfl rfl) | apply Trace.pu [_] (.loadLoc1 ty50 (.plain rfl) rfl rfl) | apply Trace.pu [] (.loadRp1 ty50 (.plain rfl) rfl) | apply Trace.pu [_] (.loadCol1 ty50 (.plain rfl) rfl rfl rfl (fun _ => by omega))
    apply Trace.pu [] (.nilCheck (.plain rfl) rfl)
    apply Trace.pu [] (.indexLoc ar66 (.plain rfl) (.plain rfl) (fun _ => by decide) rfl)
    apply Trace.pu [] (.fieldAddr fl49_0 (.plain rfl) rfl)
    first | apply Trace.storeD ty47 (.plain rfl) (.plain rfl) rfl rfl rfl (by simp [AV.oneB, single]) (Nat.le_of_ble_eq_true rfl) rfl | apply Trace.storeDA ty47 (.plain rfl) (.plain rfl) rfl rfl rfl (by simp [AV.oneB, single]) (Nat.le_of_ble_eq_true rfl) rfl | apply Trace.storeLoc ty47 (.plain rfl) (.plain rfl) rfl rfl rfl (by simp [AV.oneB, single]) (Nat.le_of_ble_eq_true rfl) rfl | apply Trace.storeRow ty47 (.plain rfl) (.plain rfl) rfl rfl rfl rfl (by decide) (by simp [AV.oneB, single]) rfl (by omega)
    exact .nil _
  · exact keepOK_of hk hn rfl
  apply WPA.seq
  apply WPA.region
  · first | apply Trace.pu [_] (.loadLoc1D ty50 (.plain rfl) rfl rfl) | apply Trace.pu [_] (.loadLoc1 ty50 (.plain rfl) rfl rfl) | apply Trace.pu [] (.loadRp1 ty50 (.plain rfl) rfl) | apply Trace.pu [_] (.loadCol1 ty50 (.plain rfl) rfl rfl rfl (fun _ => by omega))
    apply Trace.pu [] (.nilCheck (.plain rfl) rfl)
    apply Trace.pu [] (.indexLoc ar66 (.plain rfl) (.plain rfl) (fun _ => by decide) rfl)
    apply Trace.pu [] (.fieldAddr fl49_0 (.plain rfl) rfl)
    first | apply Trace.storeD ty47 (.plain rfl) (.plain rfl) rfl rfl rfl (by simp [AV.oneB, single]) (Nat.le_of_ble_eq_true rfl) rfl | apply Trace.storeDA ty47 (.plain rfl) (.plain rfl) rfl rfl rfl (by simp [AV.oneB, single]) (Nat.le_of_ble_eq_true rfl) rfl | apply Trace.storeLoc ty47 (.plain rfl) (.plain rfl) rfl rfl rfl (by simp [AV.oneB, single]) (Nat.le_of_ble_eq_true rfl) rfl | apply Trace.storeRow ty47 (.plain rfl) (.plain rfl) rfl rfl rfl rfl (by decide) (by simp [AV.oneB, single]) rfl (by omega)
    exact .nil _
  · exact keepOK_of hk hn rfl
  apply WPA.seq
  apply WPA.region
  · first | apply Trace.pu [_] (.loadLoc1D ty50 (.plain rfl) rfl rfl) | apply Trace.pu [_] (.loadLoc1 ty50 (.plain rfl) rfl rfl) | apply Trace.pu [] (.loadRp1 ty50 (.plain rfl) rfl) | apply Trace.pu [_] (.loadCol1 ty50 (.plain rfl) rfl rfl rfl (fun _ => by omega))
    apply Trace.pu [] (.funcL (.cons (.plain rfl) .nil))
    apply Trace.pu [] (.nilCheck (.plain rfl) rfl)
    apply Trace.pu [] (.indexLoc ar66 (.plain rfl) (.plain rfl) (fun _ => by decide) rfl)
    apply Trace.pu [] (.fieldAddr fl49_0 (.plain rfl) rfl)
    first | apply Trace.storeD ty47 (.plain rfl) (.plain rfl) rfl rfl rfl (by simp [AV.oneB, single]) (Nat.le_of_ble_eq_true rfl) rfl | apply Trace.storeDA ty47 (.plain rfl) (.plain rfl) rfl rfl rfl (by simp [AV.oneB, single]) (Nat.le_of_ble_eq_true rfl) rfl | apply Trace.storeLoc ty47 (.plain rfl) (.plain rfl) rfl rfl rfl (by simp [AV.oneB, single]) (Nat.le_of_ble_eq_true rfl) rfl | apply Trace.storeRow ty47 (.plain rfl) (.plain rfl) rfl rfl rfl rfl (by decide) (by simp [AV.oneB, single]) rfl (by omega)
    exact .nil _
  · exact keepOK_of hk hn rfl
  apply WPA.seq
  apply WPA.region
  · first | apply Trace.pu [_] (.loadLoc1D ty50 (.plain rfl) rfl rfl) | apply Trace.pu [_] (.loadLoc1 ty50 (.plain rfl) rfl rfl) | apply Trace.pu [] (.loadRp1 ty50 (.plain rfl) rfl) | apply Trace.pu [_] (.loadCol1 ty50 (.plain rfl) rfl rfl rfl (fun _ => by omega))
    apply Trace.pu [] (.assign (.plain rfl))
    exact .nil _
  · exact keepOK_of hk hn rfl
  apply WPA.ret
  refine ⟨.inr rfl, ⟨_, (.cons (.tmp rfl) .nil), ?_⟩, blks_of (.cons rfl (.cons rfl .nil))⟩
  rfl
/-- soundpost/codec.newWriter$1 -/
theorem spec37 (xs : List Int) (n : Int) (s : ByteArray) (l : List Val) (hN : -9223372036854775808 ≤ n ∧ n ≤ 9223372036854775807) (hx : xs.length + 40 ≤ 140737488355328) : FnSpec Try.prog 37 [.own 2 xs.length, (Val.mk 1 n s l).av] [(bk 2, .blk (.app 1 xs.length [.ints .u8 xs]))] (.own 2 (xs ++ (Val.mk 1 n s l).enc).length) [(bk 2, .blk (.app 1 (xs ++ (Val.mk 1 n s l).enc).length [.ints .u8 (xs ++ (Val.mk 1 n s l).enc)]))] [] := by
  refine fnSpec_of (rs := [.tmp 4]) Try.func37 rfl rfl (Nat.le_of_ble_eq_true rfl) (odd_of rfl) fun E hk hn => ?_
  apply WPA.seq
  apply WPA.region
  · first | apply Trace.boxD 3 [] (.plain rfl) rfl rfl | apply Trace.box 3 [] (.plain rfl) rfl rfl rfl
    apply Trace.pu [] (.assign (.plain rfl))
    exact .nil _
  · exact keepOK_of hk hn rfl
  apply WPA.seq
  apply WPA.draw mixed
  · apply Trace.pu [] (.move (.plain rfl))
    apply Trace.buildSlice 6 [] so27 zo5 rfl (by decide) (by decide) (.cons (.plain rfl) rfl rfl (Nat.le_of_ble_eq_true rfl) (.nil _ _)) rfl rfl rfl
    apply Trace.append 7 [bk 2] ap27 kd27 (by decide) (.own (.plain rfl) rfl) (.own (.plain rfl) rfl) (Col.ones rfl) (labs_ok rfl) (by omega) (by omega) rfl rfl
    apply Trace.pu [] (.fieldAddr fl24_1 (.plain rfl) rfl)
    first | apply Trace.pu [_] (.loadLoc1D ty3 (.plain rfl) rfl rfl) | apply Trace.pu [_] (.loadLoc1 ty3 (.plain rfl) rfl rfl) | apply Trace.pu [] (.loadRp1 ty3 (.plain rfl) rfl) | apply Trace.pu [_] (.loadCol1 ty3 (.plain rfl) rfl rfl rfl (fun _ => by omega))
    apply Trace.cu (callArgs0 (.cons (.plain rfl) .nil)) (spec39 n hN) en39
    have hz := zig_lt hN
    have e7 : (xs ++ [(1 : Int)]).length = xs.length + 1 := by simp
    apply Trace.cb [2] [bk 7, sl 0, sl 5] (callArgs0 (.cons (.plain rfl) (.cons (.plain rfl) .nil))) ((spec38 (xs ++ [1]) (zig n) hz (by simp; omega)).as 0 7 rfl rfl rfl rfl rfl rfl rfl |>.as 1 2 rfl rfl (by rw [e7]; rfl) (by rw [e7]; rfl) rfl rfl rfl) en38 (.cons rfl .nil) rfl rfl
    apply Trace.pu [] (.assign (.plain rfl))
    exact .nil _
  · rfl
  · exact keepOK_of hk hn rfl
  apply WPA.ret
  refine ⟨.inr rfl, ⟨_, (.cons (.tmp rfl) .nil), ?_⟩, blks_of (.cons (app_eq (by rw [Val.enc_int]; simp) (by rw [Val.enc_int]; simp)) .nil)⟩
  exact own_eq (by rw [Val.enc_int]; simp)
/-- soundpost/codec.newWriter$2 -/
theorem spec40 (xs : List Int) (n : Int) (s : ByteArray) (l : List Val) (hs : s.size ≤ 140737488355328) (hx : xs.length + s.size + 40 ≤ 140737488355328) : FnSpec Try.prog 40 [.own 2 xs.length, (Val.mk 2 n s l).av] [(bk 2, .blk (.app 1 xs.length [.ints .u8 xs]))] (.own 2 (xs ++ (Val.mk 2 n s l).enc).length) [(bk 2, .blk (.app 1 (xs ++ (Val.mk 2 n s l).enc).length [.ints .u8 (xs ++ (Val.mk 2 n s l).enc)]))] [] := by
  refine fnSpec_of (rs := [.tmp 4]) Try.func40 rfl rfl (Nat.le_of_ble_eq_true rfl) (odd_of rfl) fun E hk hn => ?_
  apply WPA.seq
  apply WPA.region
  · first | apply Trace.boxD 3 [] (.plain rfl) rfl rfl | apply Trace.box 3 [] (.plain rfl) rfl rfl rfl
    apply Trace.pu [] (.assign (.plain rfl))
    exact .nil _
  · exact keepOK_of hk hn rfl
  apply WPA.seq
  apply WPA.draw mixed
  · apply Trace.pu [] (.move (.plain rfl))
    apply Trace.buildSlice 6 [] so27 zo5 rfl (by decide) (by decide) (.cons (.plain rfl) rfl rfl (Nat.le_of_ble_eq_true rfl) (.nil _ _)) rfl rfl rfl
    apply Trace.append 7 [bk 2] ap27 kd27 (by decide) (.own (.plain rfl) rfl) (.own (.plain rfl) rfl) (Col.ones rfl) (labs_ok rfl) (by omega) (by omega) rfl rfl
    apply Trace.pu [] (.fieldAddr fl24_2 (.plain rfl) rfl)
    first | apply Trace.pu [_] (.loadLoc1D ty9 (.plain rfl) rfl rfl) | apply Trace.pu [_] (.loadLoc1 ty9 (.plain rfl) rfl rfl) | apply Trace.pu [] (.loadRp1 ty9 (.plain rfl) rfl) | apply Trace.pu [_] (.loadCol1 ty9 (.plain rfl) rfl rfl rfl (fun _ => by omega))
    apply Trace.pu [] (.lenS rfl Try.underlying9 (.plain rfl))
    apply Trace.pu [] ((Pure.conv Try.underlying3 Try.underlying68 (.plain rfl)).to (y := iv .u64 ((s.size : Nat) : Int)) (by rw [wrap_u64_id (by omega)]))
    have hz : s.size < 18446744073709551616 := by omega
    have h10 := dig_length10 hz
    have e7 : (xs ++ [(2 : Int)]).length = xs.length + 1 := by simp
    apply Trace.cb [12] [bk 7] (callArgs0 (.cons (.plain rfl) (.cons (.plain rfl) .nil))) ((spec38 (xs ++ [2]) s.size hz (by simp; omega)).as 0 7 rfl rfl rfl rfl rfl rfl rfl |>.as 1 12 rfl rfl (by rw [e7]; rfl) (by rw [e7]; rfl) rfl rfl rfl) en38 (.cons rfl .nil) rfl rfl
    apply Trace.pu [] (.fieldAddr fl24_2 (.plain rfl) rfl)
    first | apply Trace.pu [_] (.loadLoc1D ty9 (.plain rfl) rfl rfl) | apply Trace.pu [_] (.loadLoc1 ty9 (.plain rfl) rfl rfl) | apply Trace.pu [] (.loadRp1 ty9 (.plain rfl) rfl) | apply Trace.pu [_] (.loadCol1 ty9 (.plain rfl) rfl rfl rfl (fun _ => by omega))
    apply Trace.append 2 [bk 12, sl 0, sl 5] ap27 kd9 (by decide) (.own (.plain rfl) rfl) (.str (.plain rfl)) (Col.ones rfl) (labs_ok rfl) (by simp; omega) (by simp; omega) rfl rfl
    apply Trace.pu [] (.assign (.plain rfl))
    exact .nil _
  · rfl
  · exact keepOK_of hk hn rfl
  apply WPA.ret
  refine ⟨.inr rfl, ⟨_, (.cons (.tmp rfl) .nil), ?_⟩, blks_of (.cons (app_eq (by rw [Val.enc_text]; simp [bytesI]) (by rw [Val.enc_text]; simp [bytesI_length]; omega)) .nil)⟩
  exact own_eq (by rw [Val.enc_text]; simp [bytesI_length]; omega)
/-- soundpost/codec.newWriter$3 -/
theorem spec41 (v : Val) (hz : v.Sz) (hf : v.formed = true) (hk3 : v.kind = 3) (xs : List Int) (hx : xs.length + v.enc.length + 40 ≤ 140737488355328) : FnSpec Try.prog 41 [.own 2 xs.length, v.av, .loc 1 0] ((bk 2, .blk (.app 1 xs.length [.ints .u8 xs])) :: table) (.own 2 (xs ++ v.enc).length) ((bk 2, .blk (.app 1 (xs ++ v.enc).length [.ints .u8 (xs ++ v.enc)])) :: table) [0, 1] := by
  revert hf hk3 xs
  induction hz
  rename_i k n s l h1 h2 h3 h4 hm ih
  intro hf hk3 xs hx
  have hk3 : k = 3 := hk3
  subst hk3
  obtain ⟨_, _, hfl⟩ := Val.formed_list hf
  have hll : l.length < 18446744073709551616 := by omega
  have h10 := dig_length10 hll
  have e10 : (xs ++ [(3 : Int)]).length = xs.length + 1 := by simp
  have hel0 : (Val.mk 3 n s l).enc.length = 1 + (dig l.length).length + (Val.encs l).length := by rw [Val.enc_list]; simp; omega
  refine fnSpec_of (rs := [.tmp 5]) Try.func41 rfl rfl (Nat.le_of_ble_eq_true rfl) (odd_of rfl) fun E hk hn => ?_
  apply WPA.seq
  apply WPA.region
  · first | apply Trace.boxD 4 [] (.plain rfl) rfl rfl | apply Trace.box 4 [] (.plain rfl) rfl rfl rfl
    apply Trace.pu [] (.assign (.plain rfl))
    exact .nil _
  · exact keepOK_of hk hn rfl
  apply WPA.seq
  apply WPA.draw mixed
  · apply Trace.pu [] (.move (.plain rfl))
    apply Trace.buildSlice 9 [] so27 zo5 rfl (by decide) (by decide) (.cons (.plain rfl) rfl rfl (Nat.le_of_ble_eq_true rfl) (.nil _ _)) rfl rfl rfl
    apply Trace.append 10 [bk 2] ap27 kd27 (by decide) (.own (.plain rfl) rfl) (.own (.plain rfl) rfl) (Col.ones rfl) (labs_ok rfl) (by omega) (by omega) rfl rfl
    apply Trace.pu [] (.fieldAddr fl24_3 (.plain rfl) rfl)
    first | apply Trace.pu [_] (.loadLoc1D ty22 (.plain rfl) rfl rfl) | apply Trace.pu [_] (.loadLoc1 ty22 (.plain rfl) rfl rfl) | apply Trace.pu [] (.loadRp1 ty22 (.plain rfl) rfl) | apply Trace.pu [_] (.loadCol1 ty22 (.plain rfl) rfl rfl rfl (fun _ => by omega))
    apply Trace.pu [] (.len rfl Try.underlying22 (.plain rfl) rfl)
    apply Trace.pu [] ((Pure.conv Try.underlying3 Try.underlying68 (.plain rfl)).to (y := iv .u64 ((l.length : Nat) : Int)) (by rw [wrap_u64_id (by omega)]))
    apply Trace.cb [2] [bk 10, sl 0, sl 8] (callArgs0 (.cons (.plain rfl) (.cons (.plain rfl) .nil))) ((spec38 (xs ++ [3]) l.length hll (by simp; omega)).as 0 10 rfl rfl rfl rfl rfl rfl rfl |>.as 1 2 rfl rfl (by rw [e10]; rfl) (by rw [e10]; rfl) rfl rfl rfl) en38 (.cons rfl .nil) rfl rfl
    apply Trace.pu [] (.assign (.plain rfl))
    exact .nil _
  · rfl
  · exact keepOK_of hk hn rfl
  apply WPA.seq
  apply WPA.seq
  apply WPA.region
  · apply Trace.pu [] (.fieldAddr fl24_3 (.plain rfl) rfl)
    first | apply Trace.pu [_] (.loadLoc1D ty22 (.plain rfl) rfl rfl) | apply Trace.pu [_] (.loadLoc1 ty22 (.plain rfl) rfl rfl) | apply Trace.pu [] (.loadRp1 ty22 (.plain rfl) rfl) | apply Trace.pu [_] (.loadCol1 ty22 (.plain rfl) rfl rfl rfl (fun _ => by omega))
    apply Trace.pu [] (.len rfl Try.underlying22 (.plain rfl) rfl)
    apply Trace.pu [] (.move (.plain rfl))
    exact .nil _
  · exact keepOK_of hk hn rfl
  apply WPA.block
  refine WPA.loop (σ := Nat) (fun i => [(sl 0, .av (.own 2 (xs ++ 3 :: (dig l.length ++ Val.encs (l.take i))).length)), (sl 2, .av (.loc 1 0)), (sl 17, .av (.d (.rows 4 l.length (Val.row l)))), (sl 18, .av (iv .i64 l.length)), (sl 19, .av (iv .i64 i)), (bk 2, .blk (.app 1 (xs ++ 3 :: (dig l.length ++ Val.encs (l.take i))).length [.ints .u8 (xs ++ 3 :: (dig l.length ++ Val.encs (l.take i)))])), (bk 0, .blk (.cells writers)), (bk 1, .blk (.cells [.loc 0 0]))]) (fun i => i ≤ l.length) (fun i => l.length - i) 0
    (St.le_cons (by simp [Val.encs]; rfl) (St.le_cons rfl (St.le_cons rfl (St.le_cons rfl (St.le_cons rfl (St.le_cons (by simp [Val.encs]; rfl) (St.le_cons rfl (St.le_cons rfl (St.le_nil _))))))))) (Nat.zero_le _) fun i hi => ?_
  apply WPA.seq
  apply WPA.region
  · apply Trace.pu [] (.cmp (.plain rfl) (.plain rfl) rfl)
    exact .nil _
  · exact keepOK_of hk hn rfl
  apply WPA.seq
  refine WPA.cond rfl (fun hc1 => ?_) (fun hc1 => ?_)
  · have hlt : i < l.length := by simpa using hc1
    obtain ⟨y, hy⟩ : ∃ y, l[i] = y := ⟨_, rfl⟩
    have hym : y ∈ l := hy ▸ List.getElem_mem hlt
    apply WPA.skip
    apply WPA.seq
    apply WPA.block
    apply WPA.seq
    apply WPA.region
    · first | apply Trace.pu [] (.indexRows el22 (.plain rfl) (.plain rfl) (fun _ => ⟨by omega, by omega⟩)) | apply Trace.pu [] (.indexOwn el22 (.plain rfl) (.plain rfl) (fun _ => ⟨by omega, by omega⟩)) | apply Trace.pu [] (.indexSl el22 (.plain rfl) (.plain rfl) (fun _ => ⟨by omega, by omega⟩))
      apply Trace.pu [] ((Pure.loadRp ty24 (.plain rfl) (fun _ => by rw [Val.row_length l _ (by omega)]; exact Nat.le_refl 4)).to (y := y.av) (by show AV.d (.agg ((Val.row l ((i : Int)).toNat).take 4)) = _; rw [Val.row_take l _ (by omega)]; simp [hy]))
      apply Trace.alloc 7 [] (.data _) zo24 (cellsAs_data _) rfl
      first | apply Trace.storeD ty24 (.plain rfl) (.plain rfl) rfl rfl (by simp [Val.cells_length]) (by first | exact Val.cells_one _ | simp [AV.oneB, single]) (by simp [Val.cells_length]) (spliceL_all (by simp [Val.cells_length])) | apply Trace.storeD ty24 (.plain rfl) (.plain rfl) rfl rfl (by simp [Val.cells_length]) (by first | exact Val.cells_one _ | simp [AV.oneB, single]) (by simp [Val.cells_length]) rfl | apply Trace.storeDA ty24 (.plain rfl) (.plain rfl) rfl rfl (by simp [Val.cells_length]) (by simp [AV.oneB, single]) (by simp [Val.cells_length]) rfl | apply Trace.storeLoc ty24 (.plain rfl) (.plain rfl) rfl rfl (by simp [Val.cells_length]) (by simp [AV.oneB, single]) (by simp) rfl | apply Trace.storeRow ty24 (.plain rfl) (.plain rfl) rfl rfl rfl rfl (by decide) (by simp [AV.oneB, single]) rfl (by omega)
      exact .nil _
    · exact keepOK_of hk hn rfl
    have hys := hm y hym
    have hyf := Val.formeds_mem hfl y hym
    have hel := Val.encs_split l (i + 1)
    have het := Val.encs_take l i hlt
    rw [hy] at het
    have hlen : (Val.encs l).length = (Val.encs (l.take i)).length + y.enc.length + (Val.encs (l.drop (i + 1))).length := by rw [hel, het]; simp; omega
    obtain ⟨zs, hzs⟩ : ∃ zs, xs ++ 3 :: (dig l.length ++ Val.encs (l.take i)) = zs := ⟨_, rfl⟩
    have hzl : zs.length = xs.length + (1 + ((dig l.length).length + (Val.encs (l.take i)).length)) := by rw [← hzs]; simp; omega
    have hnx : xs ++ 3 :: (dig l.length ++ Val.encs (l.take (i + 1))) = zs ++ y.enc := by rw [← hzs, het]; simp
    rw [hzs]
    have ih' := ih y hym hyf
    rcases y with ⟨k', n', s', l'⟩
    have hk' := Val.kind_of hyf
    have hyn : -9223372036854775808 ≤ n' ∧ n' ≤ 9223372036854775807 := by cases hys with | mk _ _ _ _ _ h _ _ _ => exact h
    have hyz : s'.size ≤ 140737488355328 := by cases hys with | mk _ _ _ _ _ _ h _ _ => exact h
    rcases hk' with rfl | rfl | rfl
    all_goals
      apply WPA.draw mixed
      · first | apply Trace.pu [_] (.loadLoc1D ty50 (.plain rfl) rfl rfl) | apply Trace.pu [_] (.loadLoc1 ty50 (.plain rfl) rfl rfl) | apply Trace.pu [] (.loadRp1 ty50 (.plain rfl) rfl) | apply Trace.pu [_] (.loadCol1 ty50 (.plain rfl) rfl rfl rfl (fun _ => by omega))
        apply Trace.pu [] (.fieldAddr fl24_0 (.plain rfl) rfl)
        first | apply Trace.pu [_] (.loadLoc1D ty3 (.plain rfl) rfl rfl) | apply Trace.pu [_] (.loadLoc1 ty3 (.plain rfl) rfl rfl) | apply Trace.pu [] (.loadRp1 ty3 (.plain rfl) rfl) | apply Trace.pu [_] (.loadCol1 ty3 (.plain rfl) rfl rfl rfl (fun _ => by omega))
        apply Trace.pu [] (.nilCheck (.plain rfl) rfl)
        apply Trace.pu [] (.indexLoc ar66 (.plain rfl) (.plain rfl) (fun _ => by decide) rfl)
        apply Trace.pu [] (.fieldAddr fl49_0 (.plain rfl) rfl)
        first | apply Trace.pu [_] (.loadLoc1D ty47 (.plain rfl) rfl rfl) | apply Trace.pu [_] (.loadLoc1 ty47 (.plain rfl) rfl rfl) | apply Trace.pu [] (.loadRp1 ty47 (.plain rfl) rfl) | apply Trace.pu [_] (.loadCol1 ty47 (.plain rfl) rfl rfl rfl (fun _ => by omega))
        apply Trace.pu [] (.move (.plain rfl))
        first | apply Trace.pu [_] (.loadAllD ty24 (.plain rfl) rfl (by simp [Val.cells_length])) | apply Trace.pu [_] (.loadLocD ty24 (.plain rfl) rfl (fun _ => by simp [Val.cells_length])) | apply Trace.pu [_] (.loadLoc ty24 (.plain rfl) rfl (fun _ => Nat.le_of_ble_eq_true rfl)) | apply Trace.pu [] (.loadRp ty24 (.plain rfl) (fun _ => by decide)) | apply Trace.pu [_] (.loadCol ty24 (.plain rfl) rfl rfl (fun _ => by decide) (fun _ => by omega)) | apply Trace.pu [_] (.loadArr ty24 (.plain rfl) rfl)
        first
          | apply Trace.cb [2] [bk 2, sl 0, sl 30] (callArgs (.plain rfl) (.cons (.plain rfl) (.cons (.plain rfl) .nil))) (spec37 zs n' s' l' hyn (by omega)) en37 (.cons rfl .nil) rfl rfl
          | apply Trace.cb [2] [bk 2, sl 0, sl 30] (callArgs (.plain rfl) (.cons (.plain rfl) (.cons (.plain rfl) .nil))) (spec40 zs n' s' l' hyz (by rw [Val.enc_text] at hlen; simp [bytesI_length] at hlen; omega)) en40 (.cons rfl .nil) rfl rfl
          | apply Trace.cb [2] [bk 2, sl 0, sl 30, bk 0, bk 1] (callArgs (.plain rfl) (.cons (.plain rfl) (.cons (.plain rfl) .nil))) (ih' rfl zs (by omega)) en41 (.cons rfl (.cons rfl (.cons rfl .nil))) rfl rfl
        apply Trace.pu [] (.assign (.plain rfl))
        exact .nil _
      · rfl
      · exact keepOK_of hk hn rfl
      apply WPA.region
      · apply Trace.pu [] (.arith (.plain rfl) (.plain rfl) rfl (fun _ => bd64 (by omega)))
        apply Trace.pu [] (.move (.plain rfl))
        exact .nil _
      · exact keepOK_of hk hn rfl
      exact ⟨i + 1, by omega, by omega, St.le_cons (by rw [hnx]; rfl) (St.le_cons rfl (St.le_cons rfl (St.le_cons rfl (St.le_cons (iv_eq (by omega)) (St.le_cons (by rw [hnx]; rfl) (St.le_cons rfl (St.le_cons rfl (St.le_nil _))))))))⟩
  · have hil : i = l.length := by
      have : ¬ ((i : Int) < l.length) := by simpa using hc1
      omega
    subst hil
    rw [List.take_length]
    apply WPA.exit
    apply WPA.seq
    apply WPA.region
    · apply Trace.pu [] (.move (.plain rfl))
      apply Trace.pu [] (.assign (.plain rfl))
      exact .nil _
    · exact keepOK_of hk hn rfl
    apply WPA.ret
    refine ⟨.inr rfl, ⟨_, (.cons (.tmp rfl) .nil), ?_⟩, blks_of (.cons (app_eq (by rw [Val.enc_list]) (by rw [Val.enc_list])) (.cons rfl (.cons rfl .nil)))⟩
    exact own_eq (by rw [Val.enc_list])

end Go.Proofs.Ytlccnbnnlfbfjaa

