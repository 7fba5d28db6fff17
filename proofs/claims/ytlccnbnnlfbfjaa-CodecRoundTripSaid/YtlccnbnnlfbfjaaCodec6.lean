/- The specification of codec: Encode and Size. -/
import Derived.Test.YtlccnbnnlfbfjaaCodec4
import Derived.Test.YtlccnbnnlfbfjaaCodec5
namespace Go.Proofs.Ytlccnbnnlfbfjaa
open Go
set_option linter.unusedVariables false
set_option linter.unusedSimpArgs false
set_option maxRecDepth 10000

/-- soundpost/soundpostref01.encode -/
theorem spec27 (v : Val) (hz : v.Sz) (hf : v.formed = true) (hl : v.enc.length + 40 ≤ 140737488355328) : FnSpec Try.prog 27 [v.av] [] (.own 0 v.enc.length) [(bk 0, .blk (.app 1 v.enc.length [.ints .u8 v.enc]))] [] := by
  revert hf hl
  induction hz
  rename_i k n s l h1 h2 h3 h4 hm ih
  intro hf hl
  refine fnSpec_of (rs := [.tmp 2]) Try.func27 rfl rfl (Nat.le_of_ble_eq_true rfl) (by simp [St.get]) fun E hk hn => ?_
  apply WPA.seq
  apply WPA.region
  · apply Trace.boxD 44 [] (.plain rfl) rfl rfl
    apply Trace.pu [] (.assign (.plain rfl))
    exact .nil _
  · exact keepOK_of hk hn rfl
  apply WPA.seq
  apply WPA.seq
  apply WPA.region
  · apply Trace.pu [] (.fieldAddr fl24_0 (.plain rfl) rfl)
    first | apply Trace.pu [_] (.loadLoc1D ty3 (.plain rfl) rfl rfl) | apply Trace.pu [_] (.loadLoc1 ty3 (.plain rfl) rfl rfl) | apply Trace.pu [] (.loadRp1 ty3 (.plain rfl) rfl) | apply Trace.pu [_] (.loadCol1 ty3 (.plain rfl) rfl rfl rfl (fun _ => by omega))
    exact .nil _
  · exact keepOK_of hk hn rfl
  apply WPA.block
  apply WPA.seq
  apply WPA.region
  · apply Trace.pu [] (.cmp (.plain rfl) (.plain rfl) rfl)
    apply Trace.pu [] (.assign (.plain rfl))
    exact .nil _
  · exact keepOK_of hk hn rfl
  refine WPA.cond rfl (fun hc1 => ?_) (fun hc1 => ?_)
  · have hk1 : k = 1 := by simpa using hc1
    subst hk1
    have hz1 := zig_lt h2
    have hd1 := dig_length10 hz1
    apply WPA.seq
    apply WPA.region
    · apply Trace.buildSlice 9 [] so27 zo5 rfl (by decide) (by decide) (.cons (.plain rfl) rfl rfl (Nat.le_of_ble_eq_true rfl) (.nil _ _)) rfl rfl rfl
      apply Trace.pu [] (.fieldAddr fl24_1 (.plain rfl) rfl)
      first | apply Trace.pu [_] (.loadLoc1D ty3 (.plain rfl) rfl rfl) | apply Trace.pu [_] (.loadLoc1 ty3 (.plain rfl) rfl rfl) | apply Trace.pu [] (.loadRp1 ty3 (.plain rfl) rfl) | apply Trace.pu [_] (.loadCol1 ty3 (.plain rfl) rfl rfl rfl (fun _ => by omega))
      apply Trace.cu (callArgs0 (.cons (.plain rfl) .nil)) (spec43 n h2) en43
      apply Trace.cb [13] [] (callArgs0 (.cons (.plain rfl) .nil)) ((spec42 (zig n) hz1).as 1 13 rfl rfl rfl rfl rfl rfl rfl) en42 .nil rfl rfl
      apply Trace.append 0 [bk 9] ap27 kd27 (by decide) (.own (.plain rfl) rfl) (.own (.plain rfl) rfl) (Col.ones rfl) (labs_ok rfl) (by first | omega | (simp; omega)) (by first | omega | (simp; omega)) rfl rfl
      apply Trace.pu [] (.assign (.plain rfl))
      exact .nil _
    · exact keepOK_of hk hn rfl
    apply WPA.ret
    refine ⟨.inr rfl, ⟨_, (.cons (.tmp rfl) .nil), ?_⟩, by first | exact blks_of (.cons (app_eq (by rw [Val.enc_int]; rfl) (by rw [Val.enc_int]; simp; omega)) .nil) | exact blks_of (.cons (app_eq (by rw [Val.enc_text]; simp [bytesI]) (by rw [Val.enc_text]; simp [bytesI_length]; omega)) .nil) | exact blks_of (.cons (app_eq (by rw [Val.enc_list]) (by rw [Val.enc_list])) .nil)⟩
    exact own_eq (by rw [Val.enc_int]; simp; omega)
  · have hk1 : ¬ k = 1 := by simpa using hc1
    apply WPA.seq
    apply WPA.region
    · apply Trace.pu [] (.cmp (.plain rfl) (.plain rfl) rfl)
      apply Trace.pu [] (.assign (.plain rfl))
      exact .nil _
    · exact keepOK_of hk hn rfl
    refine WPA.cond rfl (fun hc2 => ?_) (fun hc2 => ?_)
    · have hk2 : k = 2 := by simpa using hc2
      subst hk2
      have hd1 := dig_length10 (u := s.size) (by omega)
      have hle : (Val.mk 2 n s l).enc.length = 1 + (dig s.size).length + s.size := by rw [Val.enc_text]; simp [bytesI_length]; omega
      apply WPA.seq
      apply WPA.draw mixed
      · apply Trace.buildSlice 17 [] so27 zo5 rfl (by decide) (by decide) (.cons (.plain rfl) rfl rfl (Nat.le_of_ble_eq_true rfl) (.nil _ _)) rfl rfl rfl
        apply Trace.pu [] (.fieldAddr fl24_2 (.plain rfl) rfl)
        first | apply Trace.pu [_] (.loadLoc1D ty9 (.plain rfl) rfl rfl) | apply Trace.pu [_] (.loadLoc1 ty9 (.plain rfl) rfl rfl) | apply Trace.pu [] (.loadRp1 ty9 (.plain rfl) rfl) | apply Trace.pu [_] (.loadCol1 ty9 (.plain rfl) rfl rfl rfl (fun _ => by omega))
        apply Trace.pu [] (.lenS rfl Try.underlying9 (.plain rfl))
        apply Trace.pu [] ((Pure.conv Try.underlying3 Try.underlying68 (.plain rfl)).to (y := iv .u64 ((s.size : Nat) : Int)) (by rw [wrap_u64_id (by omega)]))
        apply Trace.cb [22] [] (callArgs0 (.cons (.plain rfl) .nil)) ((spec42 s.size (by omega)).as 1 22 rfl rfl rfl rfl rfl rfl rfl) en42 .nil rfl rfl
        apply Trace.append 23 [bk 17] ap27 kd27 (by decide) (.own (.plain rfl) rfl) (.own (.plain rfl) rfl) (Col.ones rfl) (labs_ok rfl) (by first | omega | (simp; omega)) (by first | omega | (simp; omega)) rfl rfl
        apply Trace.pu [] (.fieldAddr fl24_2 (.plain rfl) rfl)
        first | apply Trace.pu [_] (.loadLoc1D ty9 (.plain rfl) rfl rfl) | apply Trace.pu [_] (.loadLoc1 ty9 (.plain rfl) rfl rfl) | apply Trace.pu [] (.loadRp1 ty9 (.plain rfl) rfl) | apply Trace.pu [_] (.loadCol1 ty9 (.plain rfl) rfl rfl rfl (fun _ => by omega))
        apply Trace.append 0 [bk 23] ap27 kd9 (by decide) (.own (.plain rfl) rfl) (.str (.plain rfl)) (Col.ones rfl) (labs_ok rfl) (by first | omega | (simp; omega)) (by first | omega | (simp; omega)) rfl rfl
        apply Trace.pu [] (.assign (.plain rfl))
        exact .nil _
      · rfl
      · exact keepOK_of hk hn rfl
      apply WPA.ret
      refine ⟨.inr rfl, ⟨_, (.cons (.tmp rfl) .nil), ?_⟩, by first | exact blks_of (.cons (app_eq (by rw [Val.enc_int]; rfl) (by rw [Val.enc_int]; simp; omega)) .nil) | exact blks_of (.cons (app_eq (by rw [Val.enc_text]; simp [bytesI]) (by rw [Val.enc_text]; simp [bytesI_length]; omega)) .nil) | exact blks_of (.cons (app_eq (by rw [Val.enc_list]) (by rw [Val.enc_list])) .nil)⟩
      exact own_eq (by rw [Val.enc_text]; simp [bytesI_length]; omega)
    · have hk2 : ¬ k = 2 := by simpa using hc2
      have hk3 : k = 3 := by rcases Val.kind_of hf with h | h | h <;> omega
      subst hk3
      have hd1 := dig_length10 (u := l.length) (by omega)
      obtain ⟨_, _, hfl⟩ := Val.formed_list hf
      apply WPA.skip
      apply WPA.seq
      apply WPA.region
      · apply Trace.buildSlice 27 [] so27 zo5 rfl (by decide) (by decide) (.cons (.plain rfl) rfl rfl (Nat.le_of_ble_eq_true rfl) (.nil _ _)) rfl rfl rfl
        apply Trace.pu [] (.fieldAddr fl24_3 (.plain rfl) rfl)
        first | apply Trace.pu [_] (.loadLoc1D ty22 (.plain rfl) rfl rfl) | apply Trace.pu [_] (.loadLoc1 ty22 (.plain rfl) rfl rfl) | apply Trace.pu [] (.loadRp1 ty22 (.plain rfl) rfl) | apply Trace.pu [_] (.loadCol1 ty22 (.plain rfl) rfl rfl rfl (fun _ => by omega))
        apply Trace.pu [] (.len rfl Try.underlying22 (.plain rfl) rfl)
        apply Trace.pu [] ((Pure.conv Try.underlying3 Try.underlying68 (.plain rfl)).to (y := iv .u64 ((l.length : Nat) : Int)) (by rw [wrap_u64_id (by omega)]))
        apply Trace.cb [32] [] (callArgs0 (.cons (.plain rfl) .nil)) ((spec42 l.length (by omega)).as 1 32 rfl rfl rfl rfl rfl rfl rfl) en42 .nil rfl rfl
        apply Trace.append 0 [bk 27] ap27 kd27 (by decide) (.own (.plain rfl) rfl) (.own (.plain rfl) rfl) (Col.ones rfl) (labs_ok rfl) (by first | omega | (simp; omega)) (by first | omega | (simp; omega)) rfl rfl
        apply Trace.pu [] (.assign (.plain rfl))
        exact .nil _
      · exact keepOK_of hk hn rfl
      apply WPA.seq
      apply WPA.seq
      apply WPA.region
      · apply Trace.pu [] (.assign (.plain rfl))
        exact .nil _
      · exact keepOK_of hk hn rfl
      apply WPA.block
      refine WPA.loop (σ := Nat) (fun i => [(sl 1, .av (.loc 44 0)), (sl 3, .av (.own 0 (3 :: (dig l.length ++ Val.encs (l.take i))).length)), (sl 4, .av (iv .i64 i)), (bk 44, .blk (.data (Val.mk 3 n s l).cells)), (bk 0, .blk (.app 1 (3 :: (dig l.length ++ Val.encs (l.take i))).length [.ints .u8 (3 :: (dig l.length ++ Val.encs (l.take i)))]))]) (fun i => i ≤ l.length) (fun i => l.length - i) 0
        (St.le_cons rfl (St.le_cons (by simp [Val.encs, Nat.add_comm]; rfl) (St.le_cons rfl (St.le_cons rfl (St.le_cons (by simp [Val.encs, Nat.add_comm]; rfl) (St.le_nil _)))))) (Nat.zero_le _) fun i hi => ?_
      apply WPA.seq
      apply WPA.seq
      apply WPA.region
      · apply Trace.pu [] (.move (.plain rfl))
        apply Trace.pu [] (.fieldAddr fl24_3 (.plain rfl) rfl)
        first | apply Trace.pu [_] (.loadLoc1D ty22 (.plain rfl) rfl rfl) | apply Trace.pu [_] (.loadLoc1 ty22 (.plain rfl) rfl rfl) | apply Trace.pu [] (.loadRp1 ty22 (.plain rfl) rfl) | apply Trace.pu [_] (.loadCol1 ty22 (.plain rfl) rfl rfl rfl (fun _ => by omega))
        apply Trace.pu [] (.len rfl Try.underlying22 (.plain rfl) rfl)
        apply Trace.pu [] (.cmp (.plain rfl) (.plain rfl) rfl)
        exact .nil _
      · exact keepOK_of hk hn rfl
      refine WPA.cond rfl (fun hc3 => ?_) (fun hc3 => ?_)
      · have hlt : i < l.length := by simpa using hc3
        obtain ⟨y, hy⟩ : ∃ y, l[i] = y := ⟨_, rfl⟩
        have hym : y ∈ l := hy ▸ List.getElem_mem hlt
        have hel := Val.encs_split l (i + 1)
        have het := Val.encs_take l i hlt
        rw [hy] at het
        have hlen : (Val.encs l).length = (Val.encs (l.take i)).length + y.enc.length + (Val.encs (l.drop (i + 1))).length := by rw [hel, het]; simp; omega
        have hle : (Val.mk 3 n s l).enc.length = 1 + (dig l.length).length + (Val.encs l).length := by rw [Val.enc_list]; simp; omega
        obtain ⟨zs, hzs⟩ : ∃ zs, 3 :: (dig l.length ++ Val.encs (l.take i)) = zs := ⟨_, rfl⟩
        have hzl : zs.length = 1 + ((dig l.length).length + (Val.encs (l.take i)).length) := by rw [← hzs]; simp; omega
        have hnx : 3 :: (dig l.length ++ Val.encs (l.take (i + 1))) = zs ++ y.enc := by rw [← hzs, het]; simp
        rw [hzs]
        apply WPA.skip
        apply WPA.seq
        apply WPA.block
        apply WPA.region
        · apply Trace.pu [] (.move (.plain rfl))
          apply Trace.pu [] (.fieldAddr fl24_3 (.plain rfl) rfl)
          first | apply Trace.pu [_] (.loadLoc1D ty22 (.plain rfl) rfl rfl) | apply Trace.pu [_] (.loadLoc1 ty22 (.plain rfl) rfl rfl) | apply Trace.pu [] (.loadRp1 ty22 (.plain rfl) rfl) | apply Trace.pu [_] (.loadCol1 ty22 (.plain rfl) rfl rfl rfl (fun _ => by omega))
          apply Trace.pu [] (.move (.plain rfl))
          first | apply Trace.pu [] (.indexRows el22 (.plain rfl) (.plain rfl) (fun _ => ⟨by omega, by omega⟩)) | apply Trace.pu [] (.indexOwn el22 (.plain rfl) (.plain rfl) (fun _ => ⟨by omega, by omega⟩)) | apply Trace.pu [] (.indexSl el22 (.plain rfl) (.plain rfl) (fun _ => ⟨by omega, by omega⟩))
          apply Trace.pu [] ((Pure.loadRp ty24 (.plain rfl) (fun _ => by rw [Val.row_length l _ (by omega)]; exact Nat.le_refl 4)).to (y := y.av) (by show AV.d (.agg ((Val.row l ((i : Int)).toNat).take 4)) = _; rw [Val.row_take l _ (by omega)]; simp [hy]))
          apply Trace.cb [47] [] (callArgs0 (.cons (.plain rfl) .nil)) ((ih y hym (Val.formeds_mem hfl y hym) (by omega)).as 0 47 rfl rfl rfl rfl rfl rfl rfl) en27 .nil rfl rfl
          apply Trace.append 0 [sl 3, sl 41, sl 2] ap27 kd27 (by decide) (.own (.plain rfl) rfl) (.own (.plain rfl) rfl) (Col.ones rfl) (labs_ok rfl) (by first | omega | (simp; omega)) (by first | omega | (simp; omega)) rfl rfl
          apply Trace.pu [] (.assign (.plain rfl))
          exact .nil _
        · exact keepOK_of hk hn rfl
        apply WPA.region
        · apply Trace.pu [] (.move (.plain rfl))
          apply Trace.pu [] (.arith (.plain rfl) (.plain rfl) rfl (fun _ => bd64 (by omega)))
          apply Trace.pu [] (.assign (.plain rfl))
          exact .nil _
        · exact keepOK_of hk hn rfl
        exact ⟨i + 1, by omega, by omega, St.le_cons rfl (St.le_cons (by rw [hnx]; simp; rfl) (St.le_cons (iv_eq (by omega)) (St.le_cons rfl (St.le_cons (by rw [hnx]; simp; rfl) (St.le_nil _)))))⟩
      · have hil : i = l.length := by
          have : ¬ ((i : Int) < l.length) := by simpa using hc3
          omega
        subst hil
        rw [List.take_length]
        apply WPA.exit
        apply WPA.seq
        apply WPA.region
        · apply Trace.pu [] (.move (.plain rfl))
          apply Trace.pu [] (.assign (.plain rfl))
          exact .nil _
        · exact keepOK_of hk hn rfl
        apply WPA.ret
        refine ⟨.inr rfl, ⟨_, (.cons (.tmp rfl) .nil), ?_⟩, by first | exact blks_of (.cons (app_eq (by rw [Val.enc_int]; rfl) (by rw [Val.enc_int]; simp; omega)) .nil) | exact blks_of (.cons (app_eq (by rw [Val.enc_text]; simp [bytesI]) (by rw [Val.enc_text]; simp [bytesI_length]; omega)) .nil) | exact blks_of (.cons (app_eq (by rw [Val.enc_list]) (by rw [Val.enc_list])) .nil)⟩
        exact own_eq (by rw [Val.enc_list])
/-- soundpost/soundpostref01.Encode -/
theorem spec13 (v : Val) (hz : v.Sz) (hd : v.depth ≤ 4611686018427387904) (hl : v.encoded.length + 40 ≤ 140737488355328) : FnSpec Try.prog 13 [v.av] [] (.tup ([bytesD v.encoded, .v (.int .i64 v.check)].map .d)) [] [] := by
  refine fnSpec_of (rs := [.tmp 2, .tmp 3]) Try.func13 rfl rfl (Nat.le_of_ble_eq_true rfl) (by simp [St.get]) fun E hk hn => ?_
  apply WPA.seq
  apply WPA.region
  · first | apply Trace.boxD 1 [] (.plain rfl) rfl rfl | apply Trace.box 1 [] (.plain rfl) rfl rfl rfl
    apply Trace.pu [] (.assign (.plain rfl))
    apply Trace.pu [] (.assign (.plain rfl))
    exact .nil _
  · exact keepOK_of hk hn rfl
  apply WPA.seq
  apply WPA.region
  · first | apply Trace.pu [_] (.loadAllD ty24 (.plain rfl) rfl (by simp [Val.cells_length])) | apply Trace.pu [_] (.loadLocD ty24 (.plain rfl) rfl (fun _ => by simp [Val.cells_length])) | apply Trace.pu [_] (.loadLoc ty24 (.plain rfl) rfl (fun _ => Nat.le_of_ble_eq_true rfl)) | apply Trace.pu [] (.loadRp ty24 (.plain rfl) (fun _ => by decide)) | apply Trace.pu [_] (.loadCol ty24 (.plain rfl) rfl rfl (fun _ => by decide) (fun _ => by omega)) | apply Trace.pu [_] (.loadArr ty24 (.plain rfl) rfl)
    apply Trace.cu (callArgs0 (.cons (.plain rfl) .nil)) (spec17 v hz hd) en17
    apply Trace.pu [] (.assign (.plain rfl))
    exact .nil _
  · exact keepOK_of hk hn rfl
  apply WPA.seq
  apply WPA.seq
  apply WPA.region
  · apply Trace.pu [] (.move (.plain rfl))
    apply Trace.pu [] (.cmp (.plain rfl) (.plain rfl) rfl)
    exact .nil _
  · exact keepOK_of hk hn rfl
  refine WPA.cond rfl (fun hc1 => ?_) (fun hc1 => ?_)
  · have hne : v.check ≠ 0 := by simpa using hc1
    apply WPA.seq
    apply WPA.region
    · apply Trace.pu [] (.move (.plain rfl))
      apply Trace.pu [] (.assign (.plain rfl))
      apply Trace.pu [] (.assign (.plain rfl))
      exact .nil _
    · exact keepOK_of hk hn rfl
    refine WPA.ghost (Ghost.slot (t := 2) rfl (den_nilRows (n := 1) (g := fun i => [Col.at (.ints .u8 []) i]))) ?_
    apply WPA.ret
    refine ⟨.inr rfl, ⟨_, (.cons (.tmp rfl) (.cons (.tmp rfl) .nil)), ?_⟩, by simp [St.get]⟩
    have : v.encoded = [] := by simp [Val.encoded, hne]
    simp [resOf, this, bytesD, rowsD]
  · have he : v.check = 0 := by simpa using hc1
    have hf := Val.check_ok he
    have hen : v.encoded = v.enc := by simp [Val.encoded, he]
    rw [hen] at hl ⊢
    apply WPA.skip
    apply WPA.seq
    apply WPA.region
    · first | apply Trace.pu [_] (.loadAllD ty24 (.plain rfl) rfl (by simp [Val.cells_length])) | apply Trace.pu [_] (.loadLocD ty24 (.plain rfl) rfl (fun _ => by simp [Val.cells_length])) | apply Trace.pu [_] (.loadLoc ty24 (.plain rfl) rfl (fun _ => Nat.le_of_ble_eq_true rfl)) | apply Trace.pu [] (.loadRp ty24 (.plain rfl) (fun _ => by decide)) | apply Trace.pu [_] (.loadCol ty24 (.plain rfl) rfl rfl (fun _ => by decide) (fun _ => by omega)) | apply Trace.pu [_] (.loadArr ty24 (.plain rfl) rfl)
      apply Trace.cb [0] [] (callArgs0 (.cons (.plain rfl) .nil)) (spec27 v hz hf hl) en27 .nil rfl rfl
      apply Trace.pu [] (.assign (.plain rfl))
      apply Trace.pu [] (.assign (.plain rfl))
      exact .nil _
    · exact keepOK_of hk hn rfl
    refine WPA.ghost (Ghost.freeze' (t := 2) rfl rfl) ?_
    apply WPA.ret
    refine ⟨.inr rfl, ⟨_, (.cons (.tmp rfl) (.cons (.tmp rfl) .nil)), ?_⟩, by simp [St.get]⟩
    rw [he]; rfl
/-- soundpost/soundpostref01.Size -/
theorem spec15 (v : Val) (hz : v.Sz) (hd : v.depth ≤ 4611686018427387904) (hl : v.encoded.length + 40 ≤ 140737488355328) : FnSpec Try.prog 15 [v.av] [] (.tup ([.v (.int .i64 v.encoded.length), .v (.int .i64 v.check)].map .d)) [] [] := by
  refine fnSpec_of (rs := [.tmp 2, .tmp 3]) Try.func15 rfl rfl (Nat.le_of_ble_eq_true rfl) (by simp [St.get]) fun E hk hn => ?_
  apply WPA.seq
  apply WPA.region
  · first | apply Trace.boxD 1 [] (.plain rfl) rfl rfl | apply Trace.box 1 [] (.plain rfl) rfl rfl rfl
    apply Trace.pu [] (.assign (.plain rfl))
    apply Trace.pu [] (.assign (.plain rfl))
    exact .nil _
  · exact keepOK_of hk hn rfl
  apply WPA.seq
  apply WPA.region
  · first | apply Trace.pu [_] (.loadAllD ty24 (.plain rfl) rfl (by simp [Val.cells_length])) | apply Trace.pu [_] (.loadLocD ty24 (.plain rfl) rfl (fun _ => by simp [Val.cells_length])) | apply Trace.pu [_] (.loadLoc ty24 (.plain rfl) rfl (fun _ => Nat.le_of_ble_eq_true rfl)) | apply Trace.pu [] (.loadRp ty24 (.plain rfl) (fun _ => by decide)) | apply Trace.pu [_] (.loadCol ty24 (.plain rfl) rfl rfl (fun _ => by decide) (fun _ => by omega)) | apply Trace.pu [_] (.loadArr ty24 (.plain rfl) rfl)
    apply Trace.ct (callArgs0 (.cons (.plain rfl) .nil)) (spec13 v hz hd hl) en13
    apply Trace.pu [] (.move (.plain rfl))
    apply Trace.pu [] (.extract (.plain rfl) rfl)
    apply Trace.pu [] (.extract (.plain rfl) rfl)
    apply Trace.pu [] (.assign (.plain rfl))
    apply Trace.pu [] (.assign (.plain rfl))
    exact .nil _
  · exact keepOK_of hk hn rfl
  apply WPA.seq
  apply WPA.region
  · apply Trace.pu [] (.move (.plain rfl))
    apply Trace.pu [] (.len rfl Try.underlying27 (.plain rfl) rfl)
    apply Trace.pu [] (.move (.plain rfl))
    apply Trace.pu [] (.assign (.plain rfl))
    apply Trace.pu [] (.assign (.plain rfl))
    exact .nil _
  · exact keepOK_of hk hn rfl
  apply WPA.ret
  refine ⟨.inr rfl, ⟨_, (.cons (.tmp rfl) (.cons (.tmp rfl) .nil)), ?_⟩, by simp [St.get]⟩
  rfl

end Go.Proofs.Ytlccnbnnlfbfjaa

