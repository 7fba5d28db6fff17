/- The laws of codec: there and back; different values; numbers. -/
import Derived.Test.YtlccnbnnlfbfjaaCodec15
namespace Go.Proofs.Ytlccnbnnlfbfjaa
open Go
set_option linter.unusedVariables false
set_option linter.unusedSimpArgs false
set_option maxRecDepth 10000

theorem Val.check_zero {v : Val} (h : v.check = 0) : v.formed = true ∧ v.depth ≤ 16 ∧ v.encoded = v.enc := by
  have hf := Val.check_ok h
  refine ⟨hf, ?_, by rw [Val.encoded, if_pos h]⟩
  unfold Val.check at h
  rw [if_pos hf] at h
  split at h
  · cases h
  · omega
theorem Val.check_of {v : Val} (hf : v.formed = true) (hd : v.depth ≤ 16) : v.check = 0 := by
  unfold Val.check
  rw [if_pos hf, if_neg (by omega)]
theorem Val.dec_enc {v : Val} (hz : v.Sz) (h : v.check = 0) : dval v.enc = v ∧ derr v.enc = 0 := by
  obtain ⟨hf, hd, _⟩ := Val.check_zero h
  have := decoded_complete hf hd hz
  exact ⟨by simp [dval, this], by simp [derr, this]⟩
theorem enc_bytes (v : Val) (h : v.check = 0) (hz : v.Sz) : Bytes v.enc := by
  have dig_bytes : ∀ u : Nat, Bytes (dig u) := by
    intro u
    induction u using Nat.strongRecOn with
    | _ u ih =>
      by_cases hu : u < 128
      · rw [dig_lt hu]
        intro x hx
        simp at hx
        omega
      · rw [dig_ge (by omega)]
        intro x hx
        rcases List.mem_cons.1 hx with rfl | hx
        · omega
        · exact ih (u / 128) (by omega) x hx
  have key : ∀ v : Val, v.Sz → Bytes v.enc := by
    intro v hz
    induction hz with
    | mk k n s l _ _ _ _ _ ih =>
      have app : ∀ {a b : List Int}, Bytes a → Bytes b → Bytes (a ++ b) := fun ha hb x hx => by
        rcases List.mem_append.1 hx with h | h
        · exact ha x h
        · exact hb x h
      have cons : ∀ {c : Int} {b : List Int}, 0 ≤ c ∧ c < 256 → Bytes b → Bytes (c :: b) := fun hc hb x hx => by
        rcases List.mem_cons.1 hx with rfl | h
        · exact hc
        · exact hb x h
      have hl : Bytes (Val.encs l) := by
        have : ∀ m : List Val, (∀ x ∈ m, Bytes x.enc) → Bytes (Val.encs m) := by
          intro m
          induction m with
          | nil => intro _ x hx; cases hx
          | cons y r ihr => intro h; exact app (h y (by simp)) (ihr fun x hx => h x (by simp [hx]))
        exact this l ih
      simp only [Val.enc]
      split
      · exact cons (by decide) (dig_bytes _)
      · split
        · exact cons (by decide) (app (dig_bytes _) (bytesI_bytes s))
        · exact cons (by decide) (app (dig_bytes _) hl)
  exact key v hz
/-- None of two encodings is the beginning of the other one. -/
theorem enc_prefix {v w : Val} (hv : v.Sz) (hw : w.Sz) (h1 : v.check = 0) (h2 : w.check = 0) (h : v.enc.take (min v.enc.length w.enc.length) = w.enc.take (min v.enc.length w.enc.length)) : v = w := by
  have key : ∀ v w : Val, v.Sz → w.Sz → v.check = 0 → w.check = 0 → v.enc.length ≤ w.enc.length → v.enc = w.enc.take v.enc.length → v = w := by
    intro v w hv hw h1 h2 hl h
    obtain ⟨f1, d1, _⟩ := Val.check_zero h1
    obtain ⟨f2, d2, _⟩ := Val.check_zero h2
    have e1 := rval_complete (xs := w.enc) 16 v f1 d1 hv 0 (w.enc.drop v.enc.length) (by
      conv => lhs; rw [List.drop_zero, ← List.take_append_drop v.enc.length w.enc, ← h])
    have e2 := rval_complete (xs := w.enc) 16 w f2 d2 hw 0 [] (by simp)
    rw [e1] at e2
    simp only [Option.some.injEq, Prod.mk.injEq] at e2
    exact e2.1
  rcases Nat.le_total v.enc.length w.enc.length with hl | hl
  · rw [Nat.min_eq_left hl, List.take_length] at h
    exact key v w hv hw h1 h2 hl h
  · rw [Nat.min_eq_right hl, List.take_length] at h
    exact (key w v hw hv h2 h1 hl h.symm).symm

/-! Numbers. -/
def numV (a : Int) : Val := .mk 1 a ⟨#[]⟩ []
def numL (a : Int) : Nat := 1 + (dig (zig a)).length
theorem numV_sz {a : Int} (h : -9223372036854775808 ≤ a ∧ a ≤ 9223372036854775807) : (numV a).Sz := .mk _ _ _ _ (by decide) h (by decide) (by decide) (by simp)
theorem numV_check (a : Int) : (numV a).check = 0 := Val.check_of (by simp [numV, Val.formed]) (by simp [numV, Val.depth])
theorem numV_enc (a : Int) : (numV a).enc = 1 :: dig (zig a) := Val.enc_int _ _ _
theorem numV_len (a : Int) : (numV a).encoded.length = numL a := by
  rw [(Val.check_zero (numV_check a)).2.2, numV_enc, numL, List.length_cons]; omega
theorem numL_bd {a : Int} (h : -9223372036854775808 ≤ a ∧ a ≤ 9223372036854775807) : 2 ≤ numL a ∧ numL a ≤ 11 := by
  have h1 := dig_pos (zig a)
  have h2 := dig_length10 (zig_lt h)
  unfold numL; omega
theorem dig_mono : ∀ (u v : Nat), u ≤ v → (dig u).length ≤ (dig v).length := by
  intro u
  induction u using Nat.strongRecOn with
  | _ u ih =>
    intro v h
    by_cases hu : u < 128
    · rw [dig_lt hu]; have := dig_pos v; simp; omega
    · rw [dig_ge (by omega), dig_ge (u := v) (by omega)]
      have := ih (u / 128) (by omega) (v / 128) (by omega)
      simpa using this
theorem numL_mono {a b : Int} (h : (0 ≤ a ∧ a ≤ b) ∨ (a < 0 ∧ b ≤ a)) : numL a ≤ numL b := by
  have : zig a ≤ zig b := by unfold zig; split <;> split <;> omega
  have := dig_mono _ _ this
  unfold numL; omega
theorem s23n (a : Int) : FnSpec Try.prog 23 [iv .i64 a] [] (numV a).av [] [] := spec23 a
theorem s14n {a : Int} (h : -9223372036854775808 ≤ a ∧ a ≤ 9223372036854775807) : FnSpec Try.prog 14 [(numV a).av] [] (.tup ([.v (.int .i64 (numL a)), .v (.int .i64 0)].map .d)) [] [] := by
  have hb := numL_bd h
  have := spec14 (numV a) (numV_sz h) (by simp [numV, Val.depth]) (by rw [numV_len]; omega)
  rwa [numV_len, numV_check] at this
theorem s12n {a : Int} (h : -9223372036854775808 ≤ a ∧ a ≤ 9223372036854775807) : FnSpec Try.prog 12 [(numV a).av] [] (.tup ([bytesD (numV a).enc, .v (.int .i64 0)].map .d)) [] [] := by
  have hb := numL_bd h
  have := spec12 (numV a) (numV_sz h) (by simp [numV, Val.depth]) (by rw [numV_len]; omega)
  rwa [(Val.check_zero (numV_check a)).2.2, numV_check] at this
theorem s18n {a : Int} (h : -9223372036854775808 ≤ a ∧ a ≤ 9223372036854775807) : FnSpec Try.prog 18 [.d (bytesD (numV a).enc)] [] (.tup ([.agg (numV a).cells, .v (.int .i64 0)].map .d)) [] [] := by
  have hb := numL_bd h
  have hl := numV_len a
  rw [(Val.check_zero (numV_check a)).2.2] at hl
  have := spec18 (numV a).enc (by omega) (enc_bytes _ (numV_check a) (numV_sz h))
  rwa [(Val.dec_enc (numV_sz h) (numV_check a)).1, (Val.dec_enc (numV_sz h) (numV_check a)).2] at this
/-- soundpost/soundpostlaw01.CodecNumbers -/
theorem spec9 (a : Int) (ha : -9223372036854775808 ≤ a ∧ a ≤ 9223372036854775807) (b : Int) (hb : -9223372036854775808 ≤ b ∧ b ≤ 9223372036854775807) : FnSpec Try.prog 9 [iv .i64 a, iv .i64 b] [] (bv true) [] [] := by
  refine fnSpec_of (rs := [.tmp 4]) Try.func9 rfl rfl (Nat.le_of_ble_eq_true rfl) (by simp [St.get]) fun E hk hn => ?_
  apply WPA.seq
  apply WPA.region
  · apply Trace.pu [] (.assign (.plain rfl))
    exact .nil _
  · exact keepOK_of hk hn rfl
  apply WPA.seq
  apply WPA.seq
  apply WPA.region
  · apply Trace.cu (callArgs0 .nil) spec10 en10
    apply Trace.pu [] (.not (.plain rfl))
    exact .nil _
  · exact keepOK_of hk hn rfl
  refine WPA.cond rfl (fun hc1 => ?_) (fun hc1 => ?_)
  · cases hc1
  · apply WPA.skip
    apply WPA.seq
    have h1 := numL_bd ha
    have h2 := numL_bd hb
    have h3 : 0 ≤ a → a ≤ b → ¬ ((numL b : Int) < numL a) := fun h h' => by have := numL_mono (.inl ⟨h, h'⟩); omega
    have h4 : a < 0 → b ≤ a → ¬ ((numL b : Int) < numL a) := fun h h' => by have := numL_mono (.inr ⟨h, h'⟩); omega
    apply WPA.region
    · apply Trace.pu [] (.move (.plain rfl))
      apply Trace.cu (callArgs0 (.cons (.plain rfl) .nil)) (s23n a) en23
      apply Trace.ct (callArgs0 (.cons (.plain rfl) .nil)) (s14n ha) en14
      apply Trace.pu [] (.move (.plain rfl))
      apply Trace.pu [] (.extract (.plain rfl) rfl)
      apply Trace.pu [] (.extract (.plain rfl) rfl)
      apply Trace.pu [] (.assign (.plain rfl))
      apply Trace.pu [] (.assign (.plain rfl))
      exact .nil _
    · exact keepOK_of hk hn rfl
    apply WPA.seq
    apply WPA.region
    · apply Trace.pu [] (.move (.plain rfl))
      apply Trace.cu (callArgs0 (.cons (.plain rfl) .nil)) (s23n b) en23
      apply Trace.ct (callArgs0 (.cons (.plain rfl) .nil)) (s14n hb) en14
      apply Trace.pu [] (.move (.plain rfl))
      apply Trace.pu [] (.extract (.plain rfl) rfl)
      apply Trace.pu [] (.extract (.plain rfl) rfl)
      apply Trace.pu [] (.assign (.plain rfl))
      apply Trace.pu [] (.assign (.plain rfl))
      exact .nil _
    · exact keepOK_of hk hn rfl
    apply WPA.seq
    apply WPA.seq
    apply WPA.region
    · apply Trace.pu [] (.move (.plain rfl))
      apply Trace.pu [] ((Pure.cmp (.plain rfl) (.plain rfl) rfl).to (y := bv false) (congrArg (fun b => bv b) (by simp)))
      apply Trace.pu [] (.move (.plain rfl))
      apply Trace.pg [] rfl (.move (.plain rfl))
      apply Trace.pg [] rfl ((Pure.cmp (.gd rfl (fun h => h)) (.plain rfl) rfl).to (y := bv false) (congrArg (fun b => bv b) (by simp)))
      apply Trace.pu [] (.pick (.plain rfl) (.plain rfl) (.gd rfl (by simp)))
      apply Trace.pu [] (.move (.plain rfl))
      apply Trace.pg [] rfl (.move (.plain rfl))
      apply Trace.pg [] rfl ((Pure.cmp (.gd rfl (fun h => h)) (.plain rfl) rfl).to (y := bv false) (congrArg (fun b => bv b) (by simp; omega)))
      apply Trace.pu [] (.pick (.plain rfl) (.plain rfl) (.gd rfl (by simp)))
      apply Trace.pu [] (.move (.plain rfl))
      apply Trace.pg [] rfl (.move (.plain rfl))
      apply Trace.pg [] rfl ((Pure.cmp (.gd rfl (fun h => h)) (.plain rfl) rfl).to (y := bv false) (congrArg (fun b => bv b) (by simp; omega)))
      apply Trace.pu [] (.pick (.plain rfl) (.plain rfl) (.gd rfl (by simp)))
      apply Trace.pu [] (.move (.plain rfl))
      apply Trace.pg [] rfl (.move (.plain rfl))
      apply Trace.pg [] rfl ((Pure.cmp (.gd rfl (fun h => h)) (.plain rfl) rfl).to (y := bv false) (congrArg (fun b => bv b) (by simp; omega)))
      apply Trace.pu [] (.pick (.plain rfl) (.plain rfl) (.gd rfl (by simp)))
      apply Trace.pu [] (.move (.plain rfl))
      apply Trace.pg [] rfl (.move (.plain rfl))
      apply Trace.pg [] rfl ((Pure.cmp (.gd rfl (fun h => h)) (.plain rfl) rfl).to (y := bv false) (congrArg (fun b => bv b) (by simp; omega)))
      apply Trace.pu [] (.pick (.plain rfl) (.plain rfl) (.gd rfl (by simp)))
      exact .nil _
    · exact keepOK_of hk hn rfl
    refine WPA.cond rfl (fun hc2 => ?_) (fun hc2 => ?_)
    · cases hc2
    · apply WPA.skip
      apply WPA.seq
      apply WPA.seq
      apply WPA.region
      · apply Trace.pu [] (.move (.plain rfl))
        apply Trace.pu [] (.cmp (.plain rfl) (.plain rfl) rfl)
        apply Trace.pu [] (.move (.plain rfl))
        apply Trace.pg [] rfl (.move (.plain rfl))
        apply Trace.pg [] rfl (.move (.plain rfl))
        apply Trace.pg [] rfl (.cmp (.gd rfl (fun h => h)) (.gd rfl (fun h => h)) rfl)
        apply Trace.pu [] (.pick (.plain rfl) (.gd rfl (by simp)) (.plain rfl))
        apply Trace.pu [] (.move (.plain rfl))
        apply Trace.pg [] rfl (.move (.plain rfl))
        apply Trace.pg [] rfl (.move (.plain rfl))
        apply Trace.pg [] rfl (.cmp (.gd rfl (fun h => h)) (.gd rfl (fun h => h)) rfl)
        apply Trace.pu [] (.pick (.plain rfl) (.gd rfl (by simp)) (.plain rfl))
        apply Trace.pu [] (.move (.plain rfl))
        apply Trace.pg [] rfl (.move (.plain rfl))
        apply Trace.pg [] rfl (.cmp (.gd rfl (fun h => h)) (.plain rfl) rfl)
        apply Trace.pg [] rfl (.move (.gd rfl (fun h => h)))
        apply Trace.pg [] rfl (.move (.plain rfl))
        apply Trace.pg [] rfl (.move (.plain rfl))
        apply Trace.pg [] rfl (.cmp (.gd rfl (fun h => h)) (.gd rfl (fun h => h)) rfl)
        apply Trace.pg [] rfl (.pick (.gd rfl (fun h => h)) (.gd rfl (by simp)) (.plain rfl))
        apply Trace.pg [] rfl (.move (.gd rfl (fun h => h)))
        apply Trace.pg [] rfl (.move (.plain rfl))
        apply Trace.pg [] rfl (.move (.plain rfl))
        apply Trace.pg [] rfl (.cmp (.gd rfl (fun h => h)) (.gd rfl (fun h => h)) rfl)
        apply Trace.pg [] rfl (.pick (.gd rfl (fun h => h)) (.gd rfl (by simp)) (.plain rfl))
        apply Trace.pu [] ((Pure.pick (.plain rfl) (.plain rfl) (.gd rfl (by simp))).to (y := bv false) (congrArg (fun b => bv b) (by by_cases g1 : 0 ≤ a <;> by_cases g2 : a ≤ b <;> by_cases g3 : b ≤ a <;> simp [g1, g2, g3] <;> first | omega | (have := h3 g1 g2; omega) | (have := h4 (by omega) g3; omega))))
        exact .nil _
      · exact keepOK_of hk hn rfl
      refine WPA.cond rfl (fun hc3 => ?_) (fun hc3 => ?_)
      · cases hc3
      · apply WPA.skip
        apply WPA.seq
        apply WPA.region
        · apply Trace.pu [] (.move (.plain rfl))
          apply Trace.cu (callArgs0 (.cons (.plain rfl) .nil)) (s23n a) en23
          apply Trace.ct (callArgs0 (.cons (.plain rfl) .nil)) (s12n ha) en12
          apply Trace.pu [] (.move (.plain rfl))
          apply Trace.pu [] (.extract (.plain rfl) rfl)
          apply Trace.pu [] (.extract (.plain rfl) rfl)
          apply Trace.pu [] (.assign (.plain rfl))
          apply Trace.pu [] (.assign (.plain rfl))
          exact .nil _
        · exact keepOK_of hk hn rfl
        apply WPA.seq
        apply WPA.region
        · apply Trace.pu [] (.move (.plain rfl))
          apply Trace.ct (callArgs0 (.cons (.plain rfl) .nil)) (s18n ha) en18
          apply Trace.pu [] (.move (.plain rfl))
          apply Trace.pu [] (.extract (.plain rfl) rfl)
          apply Trace.pu [] (.extract (.plain rfl) rfl)
          apply Trace.alloc 11 [] (.data _) zo24 (cellsAs_data _) rfl
          first | apply Trace.storeD ty24 (.plain rfl) (.plain rfl) rfl rfl (by simp [Val.cells_length]) (by first | exact Val.cells_one _ | simp [AV.oneB, single]) (by simp [Val.cells_length]) (spliceL_all (by simp [Val.cells_length])) | apply Trace.storeD ty24 (.plain rfl) (.plain rfl) rfl rfl (by simp [Val.cells_length]) (by first | exact Val.cells_one _ | simp [AV.oneB, single]) (by simp [Val.cells_length]) rfl | apply Trace.storeDA ty24 (.plain rfl) (.plain rfl) rfl rfl (by simp [Val.cells_length]) (by simp [AV.oneB, single]) (by simp [Val.cells_length]) rfl | apply Trace.storeLoc ty24 (.plain rfl) (.plain rfl) rfl rfl (by simp [Val.cells_length]) (by simp [AV.oneB, single]) (by simp) rfl | apply Trace.storeRow ty24 (.plain rfl) (.plain rfl) rfl rfl rfl rfl (by decide) (by simp [AV.oneB, single]) rfl (by omega)
          apply Trace.pu [] (.assign (.plain rfl))
          exact .nil _
        · exact keepOK_of hk hn rfl
        apply WPA.seq
        apply WPA.region
        · apply Trace.pu [] (.move (.plain rfl))
          apply Trace.pu [] ((Pure.cmp (.plain rfl) (.plain rfl) rfl).to (y := bv true) (congrArg (fun b => bv b) (by simp)))
          apply Trace.pu [] (.move (.plain rfl))
          apply Trace.pg [] rfl (.move (.plain rfl))
          apply Trace.pg [] rfl ((Pure.cmp (.gd rfl (fun h => h)) (.plain rfl) rfl).to (y := bv true) (congrArg (fun b => bv b) (by simp)))
          apply Trace.pu [] (.pick (.plain rfl) (.gd rfl (by simp)) (.plain rfl))
          apply Trace.pu [] (.move (.plain rfl))
          apply Trace.pg [] rfl (.fieldAddr fl24_0 (.plain rfl) rfl)
          first | apply Trace.pg [_] rfl (.loadLoc1D ty3 (.gd rfl (fun h => h)) rfl rfl) | apply Trace.pg [_] rfl (.loadLoc1 ty3 (.gd rfl (fun h => h)) rfl rfl) | apply Trace.pg [] rfl (.loadRp1 ty3 (.gd rfl (fun h => h)) rfl) | apply Trace.pg [_] rfl (.loadCol1 ty3 (.gd rfl (fun h => h)) rfl rfl rfl (fun _ => by omega))
          apply Trace.pg [] rfl ((Pure.cmp (.gd rfl (fun h => h)) (.plain rfl) rfl).to (y := bv true) (congrArg (fun b => bv b) (by simp)))
          apply Trace.pu [] (.pick (.plain rfl) (.gd rfl (by simp)) (.plain rfl))
          apply Trace.pu [] (.move (.plain rfl))
          apply Trace.pg [] rfl (.fieldAddr fl24_1 (.plain rfl) rfl)
          first | apply Trace.pg [_] rfl (.loadLoc1D ty3 (.gd rfl (fun h => h)) rfl rfl) | apply Trace.pg [_] rfl (.loadLoc1 ty3 (.gd rfl (fun h => h)) rfl rfl) | apply Trace.pg [] rfl (.loadRp1 ty3 (.gd rfl (fun h => h)) rfl) | apply Trace.pg [_] rfl (.loadCol1 ty3 (.gd rfl (fun h => h)) rfl rfl rfl (fun _ => by omega))
          apply Trace.pg [] rfl (.move (.plain rfl))
          apply Trace.pg [] rfl ((Pure.cmp (.gd rfl (fun h => h)) (.gd rfl (fun h => h)) rfl).to (y := bv true) (congrArg (fun b => bv b) (by simp)))
          apply Trace.pu [] (.pick (.plain rfl) (.gd rfl (by simp)) (.plain rfl))
          apply Trace.pu [] (.move (.plain rfl))
          apply Trace.pg [] rfl (.fieldAddr fl24_3 (.plain rfl) rfl)
          first | apply Trace.pg [_] rfl (.loadLoc1D ty22 (.gd rfl (fun h => h)) rfl rfl) | apply Trace.pg [_] rfl (.loadLoc1 ty22 (.gd rfl (fun h => h)) rfl rfl) | apply Trace.pg [] rfl (.loadRp1 ty22 (.gd rfl (fun h => h)) rfl) | apply Trace.pg [_] rfl (.loadCol1 ty22 (.gd rfl (fun h => h)) rfl rfl rfl (fun _ => by omega))
          apply Trace.pg [] rfl (.len rfl Try.underlying22 (.gd rfl (fun h => h)) rfl)
          apply Trace.pg [] rfl ((Pure.cmp (.gd rfl (fun h => h)) (.plain rfl) rfl).to (y := bv true) (congrArg (fun b => bv b) (by simp)))
          apply Trace.pu [] (.pick (.plain rfl) (.gd rfl (by simp)) (.plain rfl))
          apply Trace.pu [] (.move (.plain rfl))
          apply Trace.pg [] rfl (.fieldAddr fl24_2 (.plain rfl) rfl)
          first | apply Trace.pg [_] rfl (.loadLoc1D ty9 (.gd rfl (fun h => h)) rfl rfl) | apply Trace.pg [_] rfl (.loadLoc1 ty9 (.gd rfl (fun h => h)) rfl rfl) | apply Trace.pg [] rfl (.loadRp1 ty9 (.gd rfl (fun h => h)) rfl) | apply Trace.pg [_] rfl (.loadCol1 ty9 (.gd rfl (fun h => h)) rfl rfl rfl (fun _ => by omega))
          apply Trace.pg [] rfl ((Pure.seq (.gd rfl (fun h => h)) (.plain rfl)).to (y := bv true) (congrArg (fun b => bv b) (by simp)))
          apply Trace.pu [] (.pick (.plain rfl) (.gd rfl (by simp)) (.plain rfl))
          apply Trace.pu [] (.assign (.plain rfl))
          exact .nil _
        · exact keepOK_of hk hn rfl
        apply WPA.ret
        refine ⟨.inr rfl, ⟨_, (.cons (.tmp rfl) .nil), ?_⟩, by simp [St.get]⟩
        rfl
/-- soundpost/soundpostlaw01.CodecDifferent -/
theorem spec7 (v : Val) (hz : v.Sz) (w : Val) (hw : w.Sz) : FnSpec Try.prog 7 [v.av, w.av] [] (bv true) [] [] := by
  rcases v with ⟨k, n, s, l⟩
  rcases w with ⟨k', n', s', l'⟩
  refine fnSpec_of (rs := [.tmp 4]) Try.func7 rfl rfl (Nat.le_of_ble_eq_true rfl) (by simp [St.get]) fun E hk hn => ?_
  apply WPA.seq
  apply WPA.region
  · apply Trace.boxD 2 [] (.plain rfl) rfl rfl
    apply Trace.boxD 3 [] (.plain rfl) rfl rfl
    apply Trace.pu [] (.assign (.plain rfl))
    exact .nil _
  · exact keepOK_of hk hn rfl
  apply WPA.seq
  apply WPA.seq
  apply WPA.region
  · apply Trace.cu (callArgs0 .nil) spec10 en10
    apply Trace.pu [] (.not (.plain rfl))
    exact .nil _
  · exact keepOK_of hk hn rfl
  refine WPA.cond rfl (fun hc1 => ?_) (fun hc1 => ?_)
  · cases hc1
  · apply WPA.skip
    apply WPA.seq
    apply WPA.seq
    apply WPA.region
    · apply Trace.pu [_] ((Pure.loadAllD ty24 (.plain rfl) rfl (by simp [Val.cells_length])).to (y := ((Val.mk k n s l)).av) rfl)
      apply Trace.pu [_] ((Pure.loadAllD ty24 (.plain rfl) rfl (by simp [Val.cells_length])).to (y := ((Val.mk k' n' s' l')).av) rfl)
      apply Trace.buildRows (g := Val.row [(Val.mk k n s l), (Val.mk k' n' s' l')]) so22 zo24 rfl (by decide) (by decide) (.cons (.plain rfl) rfl rfl (Nat.le_of_ble_eq_true rfl) (.cons (.plain rfl) rfl rfl (Nat.le_of_ble_eq_true rfl) (.nil _ _))) rfl (Val.row_two _ _)
      apply Trace.cu (callArgs0 (.cons (.plain rfl) .nil)) (spec11 [(Val.mk k n s l), (Val.mk k' n' s' l')] (by simp) (by simp; exact ⟨hz, hw⟩)) en11
      apply Trace.pu [] (.not (.plain rfl))
      exact .nil _
    · exact keepOK_of hk hn rfl
    refine WPA.cond rfl (fun hc2 => ?_) (fun hc2 => ?_)
    · apply WPA.seq
      apply WPA.region
      · apply Trace.pu [] (.assign (.plain rfl))
        exact .nil _
      · exact keepOK_of hk hn rfl
      apply WPA.ret
      refine ⟨.inr rfl, ⟨_, (.cons (.tmp rfl) .nil), ?_⟩, by simp [St.get]⟩
      rfl
    · have hfew : Val.few (Val.mk k n s l) = true ∧ Val.few (Val.mk k' n' s' l') = true := by simpa using hc2
      obtain ⟨hl1, hd1⟩ := Val.few_bd hz hfew.1
      obtain ⟨hl2, hd2⟩ := Val.few_bd hw hfew.2
      have hl3 := Val.encoded_le (Val.mk k n s l)
      have hl4 := Val.encoded_le (Val.mk k' n' s' l')
      apply WPA.skip
      apply WPA.seq
      apply WPA.region
      · apply Trace.pu [_] ((Pure.loadAllD ty24 (.plain rfl) rfl (by simp [Val.cells_length])).to (y := ((Val.mk k n s l)).av) rfl)
        apply Trace.ct (callArgs0 (.cons (.plain rfl) .nil)) (spec12 (Val.mk k n s l) hz (by omega) (by omega)) en12
        apply Trace.pu [] (.move (.plain rfl))
        apply Trace.pu [] (.extract (.plain rfl) rfl)
        apply Trace.pu [] (.extract (.plain rfl) rfl)
        apply Trace.pu [] (.assign (.plain rfl))
        apply Trace.pu [] (.assign (.plain rfl))
        exact .nil _
      · exact keepOK_of hk hn rfl
      apply WPA.seq
      apply WPA.region
      · apply Trace.pu [_] ((Pure.loadAllD ty24 (.plain rfl) rfl (by simp [Val.cells_length])).to (y := ((Val.mk k' n' s' l')).av) rfl)
        apply Trace.ct (callArgs0 (.cons (.plain rfl) .nil)) (spec12 (Val.mk k' n' s' l') hw (by omega) (by omega)) en12
        apply Trace.pu [] (.move (.plain rfl))
        apply Trace.pu [] (.extract (.plain rfl) rfl)
        apply Trace.pu [] (.extract (.plain rfl) rfl)
        apply Trace.pu [] (.assign (.plain rfl))
        apply Trace.pu [] (.assign (.plain rfl))
        exact .nil _
      · exact keepOK_of hk hn rfl
      apply WPA.seq
      apply WPA.seq
      apply WPA.region
      · apply Trace.pu [] (.move (.plain rfl))
        apply Trace.pu [] (.cmp (.plain rfl) (.plain rfl) rfl)
        apply Trace.pu [] (.move (.plain rfl))
        apply Trace.pg [] rfl (.move (.plain rfl))
        apply Trace.pg [] rfl (.cmp (.gd rfl (fun h => h)) (.plain rfl) rfl)
        apply Trace.pu [] (.pick (.plain rfl) (.plain rfl) (.gd rfl (by simp)))
        exact .nil _
      · exact keepOK_of hk hn rfl
      refine WPA.cond rfl (fun hc3 => ?_) (fun hc3 => ?_)
      · apply WPA.seq
        apply WPA.region
        · apply Trace.pu [] (.assign (.plain rfl))
          exact .nil _
        · exact keepOK_of hk hn rfl
        apply WPA.ret
        refine ⟨.inr rfl, ⟨_, (.cons (.tmp rfl) .nil), ?_⟩, by simp [St.get]⟩
        rfl
      · have hck : Val.check (Val.mk k n s l) = 0 ∧ Val.check (Val.mk k' n' s' l') = 0 := by simpa using hc3
        obtain ⟨hck1, hck2⟩ := hck
        have he1 := (Val.check_zero hck1).2.2
        have he2 := (Val.check_zero hck2).2.2
        rw [he1, he2]
        apply WPA.skip
        apply WPA.seq
        apply WPA.seq
        apply WPA.region
        · apply Trace.pu [_] ((Pure.loadAllD ty24 (.plain rfl) rfl (by simp [Val.cells_length])).to (y := ((Val.mk k n s l)).av) rfl)
          apply Trace.pu [_] ((Pure.loadAllD ty24 (.plain rfl) rfl (by simp [Val.cells_length])).to (y := ((Val.mk k' n' s' l')).av) rfl)
          apply Trace.cu (callArgs0 (.cons (.plain rfl) (.cons (.plain rfl) .nil))) (spec21 (Val.mk k n s l) hz (Val.mk k' n' s' l') hw) en21
          exact .nil _
        · exact keepOK_of hk hn rfl
        refine WPA.cond rfl (fun hc4 => ?_) (fun hc4 => ?_)
        · have hvw : (Val.mk k n s l) = (Val.mk k' n' s' l') := Val.same_eq hc4
          apply WPA.seq
          apply WPA.region
          · apply Trace.pu [] (.move (.plain rfl))
            apply Trace.pu [] (.strRows (xs := (Val.mk k n s l).enc) bs27 Try.underlying9 (.plain rfl) (fun _ => rfl) (fun _ i hi => rfl))
            apply Trace.pu [] (.move (.plain rfl))
            apply Trace.pu [] (.strRows (xs := (Val.mk k' n' s' l').enc) bs27 Try.underlying9 (.plain rfl) (fun _ => rfl) (fun _ i hi => rfl))
            apply Trace.pu [] ((Pure.seq (.plain rfl) (.plain rfl)).to (y := bv true) (congrArg (fun b => bv b) (by rw [hvw]; simp)))
            apply Trace.pu [] (.assign (.plain rfl))
            exact .nil _
          · exact keepOK_of hk hn rfl
          apply WPA.ret
          refine ⟨.inr rfl, ⟨_, (.cons (.tmp rfl) .nil), ?_⟩, by simp [St.get]⟩
          rfl
        · have hne : (Val.mk k n s l) ≠ (Val.mk k' n' s' l') := fun h => by
            have := hc4
            rw [h, Val.same_refl] at this
            cases this
          have hpre : (Val.mk k n s l).enc.take (min (Val.mk k n s l).enc.length (Val.mk k' n' s' l').enc.length) ≠ (Val.mk k' n' s' l').enc.take (min (Val.mk k n s l).enc.length (Val.mk k' n' s' l').enc.length) := fun h => hne (enc_prefix hz hw hck1 hck2 h)
          have hb1 := enc_bytes _ hck1 hz
          have hb2 := enc_bytes _ hck2 hw
          generalize (Val.mk k n s l).enc = xs at *
          generalize (Val.mk k' n' s' l').enc = ys at *
          apply WPA.skip
          apply WPA.seq
          apply WPA.region
          · apply Trace.pu [] (.move (.plain rfl))
            apply Trace.pu [] (.len rfl Try.underlying27 (.plain rfl) rfl)
            apply Trace.pu [] (.move (.plain rfl))
            apply Trace.pu [] (.len rfl Try.underlying27 (.plain rfl) rfl)
            apply Trace.pu [] ((Pure.min2 (.plain rfl) (.plain rfl)).to (y := iv .i64 ((min xs.length ys.length : Nat) : Int)) (congrArg (fun z => iv .i64 z) (by omega)))
            apply Trace.pu [] (.assign (.plain rfl))
            exact .nil _
          · exact keepOK_of hk hn rfl
          apply WPA.seq
          apply WPA.draw mixed
          · apply Trace.pu [] (.move (.plain rfl))
            apply Trace.pu [] (.move (.plain rfl))
            apply Trace.pu [] (.cutRows so27 (.plain rfl) (.no _) (.to _ (.plain rfl) (fun _ => by omega)) (fun _ => ⟨by omega, by omega⟩))
            apply Trace.pu [] (.strRows (xs := xs.take (min xs.length ys.length)) bs27 Try.underlying9 (.plain rfl) (fun _ => by first | (simp; done) | (simp; omega)) (fun _ i hi => (by have hi' : i < min xs.length ys.length := (by omega); simp [Col.at, List.getD, List.getElem?_take_of_lt hi'])))
            apply Trace.pu [] (.move (.plain rfl))
            apply Trace.pu [] (.move (.plain rfl))
            apply Trace.pu [] (.cutRows so27 (.plain rfl) (.no _) (.to _ (.plain rfl) (fun _ => by omega)) (fun _ => ⟨by omega, by omega⟩))
            apply Trace.pu [] (.strRows (xs := ys.take (min xs.length ys.length)) bs27 Try.underlying9 (.plain rfl) (fun _ => by first | (simp; done) | (simp; omega)) (fun _ i hi => (by have hi' : i < min xs.length ys.length := (by omega); simp [Col.at, List.getD, List.getElem?_take_of_lt hi'])))
            apply Trace.pu [] ((Pure.sne (.plain rfl) (.plain rfl)).to (y := bv true) (congrArg (fun b => bv b) (by simp; exact fun h => hpre (strOf_inj (fun x hx => hb1 x (List.mem_of_mem_take hx)) (fun x hx => hb2 x (List.mem_of_mem_take hx)) h))))
            apply Trace.pu [] (.assign (.plain rfl))
            exact .nil _
          · rfl
          · exact keepOK_of hk hn rfl
          apply WPA.ret
          refine ⟨.inr rfl, ⟨_, (.cons (.tmp rfl) .nil), ?_⟩, by simp [St.get]⟩
          rfl
/-- soundpost/soundpostlaw01.CodecRoundTrip -/
theorem spec6 (v : Val) (hz : v.Sz) (xs : List Int) (hx : xs.length ≤ 140737488355328) (hb : Bytes xs) : FnSpec Try.prog 6 [v.av, .d (bytesD xs)] [] (bv true) [] [] := by
  rcases v with ⟨k, n, s, l⟩
  refine fnSpec_of (rs := [.tmp 4]) Try.func6 rfl rfl (Nat.le_of_ble_eq_true rfl) (by simp [St.get]) fun E hk hn => ?_
  apply WPA.seq
  apply WPA.region
  · apply Trace.boxD 2 [] (.plain rfl) rfl rfl
    apply Trace.pu [] (.assign (.plain rfl))
    exact .nil _
  · exact keepOK_of hk hn rfl
  apply WPA.seq
  apply WPA.seq
  apply WPA.region
  · apply Trace.cu (callArgs0 .nil) spec10 en10
    apply Trace.pu [] (.not (.plain rfl))
    exact .nil _
  · exact keepOK_of hk hn rfl
  refine WPA.cond rfl (fun hc1 => ?_) (fun hc1 => ?_)
  · cases hc1
  · apply WPA.skip
    apply WPA.seq
    apply WPA.seq
    apply WPA.region
    · apply Trace.pu [_] ((Pure.loadAllD ty24 (.plain rfl) rfl (by simp [Val.cells_length])).to (y := ((Val.mk k n s l)).av) rfl)
      apply Trace.buildRows (g := Val.row [(Val.mk k n s l)]) so22 zo24 rfl (by decide) (by decide) (.cons (.plain rfl) rfl rfl (Nat.le_of_ble_eq_true rfl) (.nil _ _)) rfl (Val.row_one _)
      apply Trace.cu (callArgs0 (.cons (.plain rfl) .nil)) (spec11 [(Val.mk k n s l)] (by simp) (by simp; exact hz)) en11
      apply Trace.pu [] (.not (.plain rfl))
      apply Trace.pu [] (.move (.plain rfl))
      apply Trace.pg [] rfl (.move (.plain rfl))
      apply Trace.pg [] rfl (.len rfl Try.underlying27 (.gd rfl (fun h => h)) rfl)
      apply Trace.pg [] rfl (.cmp (.gd rfl (fun h => h)) (.plain rfl) rfl)
      apply Trace.pu [] ((Pure.pick (.plain rfl) (.plain rfl) (.gd rfl (by simp))).to (y := bv (!Val.few (Val.mk k n s l) || decide (2000 < (xs.length : Int)))) (congrArg (fun b => bv b) (by cases h : Val.few (Val.mk k n s l) <;> simp [h])))
      exact .nil _
    · exact keepOK_of hk hn rfl
    refine WPA.cond rfl (fun hc2 => ?_) (fun hc2 => ?_)
    · apply WPA.seq
      apply WPA.region
      · apply Trace.pu [] (.assign (.plain rfl))
        exact .nil _
      · exact keepOK_of hk hn rfl
      apply WPA.ret
      refine ⟨.inr rfl, ⟨_, (.cons (.tmp rfl) .nil), ?_⟩, by simp [St.get]⟩
      rfl
    · have hfew : Val.few (Val.mk k n s l) = true ∧ (xs.length : Int) ≤ 2000 := by simpa using hc2
      obtain ⟨hfew, hxl⟩ := hfew
      obtain ⟨hl1, hd1⟩ := Val.few_bd hz hfew
      have hl2 := Val.encoded_le (Val.mk k n s l)
      apply WPA.skip
      apply WPA.seq
      apply WPA.region
      · apply Trace.pu [_] ((Pure.loadAllD ty24 (.plain rfl) rfl (by simp [Val.cells_length])).to (y := ((Val.mk k n s l)).av) rfl)
        apply Trace.ct (callArgs0 (.cons (.plain rfl) .nil)) (spec12 (Val.mk k n s l) hz (by omega) (by omega)) en12
        apply Trace.pu [] (.move (.plain rfl))
        apply Trace.pu [] (.extract (.plain rfl) rfl)
        apply Trace.pu [] (.extract (.plain rfl) rfl)
        apply Trace.pu [] (.assign (.plain rfl))
        apply Trace.pu [] (.assign (.plain rfl))
        exact .nil _
      · exact keepOK_of hk hn rfl
      apply WPA.seq
      apply WPA.seq
      apply WPA.region
      · apply Trace.pu [] (.move (.plain rfl))
        apply Trace.pu [_] ((Pure.loadAllD ty24 (.plain rfl) rfl (by simp [Val.cells_length])).to (y := ((Val.mk k n s l)).av) rfl)
        apply Trace.cu (callArgs0 (.cons (.plain rfl) .nil)) (spec16 (Val.mk k n s l) hz (by omega)) en16
        apply Trace.pu [] ((Pure.cmp (.plain rfl) (.plain rfl) rfl).to (y := bv false) (congrArg (fun b => bv b) (by simp)))
        exact .nil _
      · exact keepOK_of hk hn rfl
      refine WPA.cond rfl (fun hc3 => ?_) (fun hc3 => ?_)
      · cases hc3
      · apply WPA.skip
        apply WPA.seq
        apply WPA.seq
        apply WPA.region
        · apply Trace.pu [] (.move (.plain rfl))
          apply Trace.pu [] (.cmp (.plain rfl) (.plain rfl) rfl)
          exact .nil _
        · exact keepOK_of hk hn rfl
        refine WPA.cond rfl (fun hc4 => ?_) (fun hc4 => ?_)
        · have hck : Val.check (Val.mk k n s l) = 0 := by simpa using hc4
          have hen := (Val.check_zero hck).2.2
          rw [hen] at hl2 ⊢
          have h18 := spec18 (Val.mk k n s l).enc (by omega) (enc_bytes _ hck hz)
          rw [(Val.dec_enc hz hck).1, (Val.dec_enc hz hck).2] at h18
          apply WPA.seq
          apply WPA.region
          · apply Trace.pu [] (.move (.plain rfl))
            apply Trace.ct (callArgs0 (.cons (.plain rfl) .nil)) h18 en18
            apply Trace.pu [] (.move (.plain rfl))
            apply Trace.pu [] (.extract (.plain rfl) rfl)
            apply Trace.pu [] (.extract (.plain rfl) rfl)
            apply Trace.alloc 7 [] (.data _) zo24 (cellsAs_data _) rfl
            first | apply Trace.storeD ty24 (.plain rfl) (.plain rfl) rfl rfl (by simp [Val.cells_length]) (by first | exact Val.cells_one _ | simp [AV.oneB, single]) (by simp [Val.cells_length]) (spliceL_all (by simp [Val.cells_length])) | apply Trace.storeD ty24 (.plain rfl) (.plain rfl) rfl rfl (by simp [Val.cells_length]) (by first | exact Val.cells_one _ | simp [AV.oneB, single]) (by simp [Val.cells_length]) rfl | apply Trace.storeDA ty24 (.plain rfl) (.plain rfl) rfl rfl (by simp [Val.cells_length]) (by simp [AV.oneB, single]) (by simp [Val.cells_length]) rfl | apply Trace.storeLoc ty24 (.plain rfl) (.plain rfl) rfl rfl (by simp [Val.cells_length]) (by simp [AV.oneB, single]) (by simp) rfl | apply Trace.storeRow ty24 (.plain rfl) (.plain rfl) rfl rfl rfl rfl (by decide) (by simp [AV.oneB, single]) rfl (by omega)
            apply Trace.pu [] (.assign (.plain rfl))
            exact .nil _
          · exact keepOK_of hk hn rfl
          apply WPA.seq
          apply WPA.region
          · apply Trace.pu [] (.move (.plain rfl))
            apply Trace.pu [] ((Pure.cmp (.plain rfl) (.plain rfl) rfl).to (y := bv false) (congrArg (fun b => bv b) (by simp)))
            apply Trace.pu [] (.move (.plain rfl))
            apply Trace.pg [_] rfl ((Pure.loadAllD ty24 (.plain rfl) rfl (by simp [Val.cells_length])).to (y := ((Val.mk k n s l)).av) rfl)
            apply Trace.pg [_] rfl ((Pure.loadAllD ty24 (.plain rfl) rfl (by simp [Val.cells_length])).to (y := ((Val.mk k n s l)).av) rfl)
            apply Trace.cg rfl (res := .v (.bool true)) (callArgs0 (.cons (.gd rfl (fun h => h)) (.cons (.gd rfl (fun h => h)) .nil))) (fun _ => by have := spec21 (Val.mk k n s l) hz (Val.mk k n s l) hz; rwa [Val.same_refl] at this) en21
            apply Trace.pg [] rfl (.not (.gd rfl (fun h => h)))
            apply Trace.pu [] (.pick (.plain rfl) (.plain rfl) (.gd rfl (by simp)))
            apply Trace.pu [] (.move (.plain rfl))
            apply Trace.pg [_] rfl ((Pure.loadAllD ty24 (.plain rfl) rfl (by simp [Val.cells_length])).to (y := ((Val.mk k n s l)).av) rfl)
            apply Trace.pg [_] rfl ((Pure.loadAllD ty24 (.plain rfl) rfl (by simp [Val.cells_length])).to (y := ((Val.mk k n s l)).av) rfl)
            apply Trace.cg rfl (res := .v (.bool true)) (callArgs0 (.cons (.gd rfl (fun h => h)) (.cons (.gd rfl (fun h => h)) .nil))) (fun _ => by have := spec20 (Val.mk k n s l) hz (Val.mk k n s l) hz; rwa [Val.same_refl] at this) en20
            apply Trace.pg [] rfl (.not (.gd rfl (fun h => h)))
            apply Trace.pu [] (.pick (.plain rfl) (.plain rfl) (.gd rfl (by simp)))
            exact .nil _
          · exact keepOK_of hk hn rfl
          refine WPA.cond rfl (fun hc5 => ?_) (fun hc5 => ?_)
          · cases hc5
          · apply WPA.skip
            apply WPA.seq
            apply WPA.region
            · apply Trace.pu [] (.move (.plain rfl))
              apply Trace.ct (callArgs0 (.cons (.plain rfl) .nil)) (spec18 xs (by omega) hb) en18
              apply Trace.pu [] (.move (.plain rfl))
              apply Trace.pu [] (.extract (.plain rfl) rfl)
              apply Trace.pu [] (.extract (.plain rfl) rfl)
              apply Trace.alloc 9 [] (.data _) zo24 (cellsAs_data _) rfl
              first | apply Trace.storeD ty24 (.plain rfl) (.plain rfl) rfl rfl (by simp [Val.cells_length]) (by first | exact Val.cells_one _ | simp [AV.oneB, single]) (by simp [Val.cells_length]) (spliceL_all (by simp [Val.cells_length])) | apply Trace.storeD ty24 (.plain rfl) (.plain rfl) rfl rfl (by simp [Val.cells_length]) (by first | exact Val.cells_one _ | simp [AV.oneB, single]) (by simp [Val.cells_length]) rfl | apply Trace.storeDA ty24 (.plain rfl) (.plain rfl) rfl rfl (by simp [Val.cells_length]) (by simp [AV.oneB, single]) (by simp [Val.cells_length]) rfl | apply Trace.storeLoc ty24 (.plain rfl) (.plain rfl) rfl rfl (by simp [Val.cells_length]) (by simp [AV.oneB, single]) (by simp) rfl | apply Trace.storeRow ty24 (.plain rfl) (.plain rfl) rfl rfl rfl rfl (by decide) (by simp [AV.oneB, single]) rfl (by omega)
              apply Trace.pu [] (.assign (.plain rfl))
              exact .nil _
            · exact keepOK_of hk hn rfl
            apply WPA.seq
            apply WPA.seq
            apply WPA.region
            · apply Trace.pu [] (.move (.plain rfl))
              apply Trace.pu [] (.cmp (.plain rfl) (.plain rfl) rfl)
              exact .nil _
            · exact keepOK_of hk hn rfl
            refine WPA.cond rfl (fun hc6 => ?_) (fun hc6 => ?_)
            · have hdn : decoded xs = none := by
                cases h : decoded xs with
                | none => rfl
                | some x => simp [derr, h] at hc6
              have e1 : dval xs = Val.none := by simp [dval, hdn]
              have e2 : derr xs = 10 := by simp [derr, hdn]
              rw [e1, e2]
              apply WPA.seq
              apply WPA.region
              · apply Trace.pu [] (.move (.plain rfl))
                apply Trace.pu [] ((Pure.cmp (.plain rfl) (.plain rfl) rfl).to (y := bv true) (congrArg (fun b => bv b) (by simp)))
                apply Trace.pu [] (.move (.plain rfl))
                apply Trace.pg [_] rfl ((Pure.loadAllD ty24 (.plain rfl) rfl (by simp [Val.cells_length])).to (y := (Val.none).av) rfl)
                apply Trace.pg [] rfl (.buildG zo24 pl24 (.nil _ _))
                apply Trace.cg rfl (res := .v (.bool true)) (callArgs0 (.cons (.gd rfl (fun h => h)) (.cons (.gd rfl (fun h => h)) .nil))) (fun _ => by have := FnSpec.argLe (A1 := [Val.none.av]) (A2 := []) (spec21 Val.none Val.none_sz Val.none Val.none_sz) (den_aggLe zeros_le); rwa [Val.same_refl] at this) en21
                apply Trace.pu [] (.pick (.plain rfl) (.gd rfl (by simp)) (.plain rfl))
                apply Trace.pu [] (.assign (.plain rfl))
                exact .nil _
              · exact keepOK_of hk hn rfl
              apply WPA.ret
              refine ⟨.inr rfl, ⟨_, (.cons (.tmp rfl) .nil), ?_⟩, by simp [St.get]⟩
              rfl
            · obtain ⟨x, hdx⟩ : ∃ x, decoded xs = some x := by
                cases h : decoded xs with
                | none => simp [derr, h] at hc6
                | some x => exact ⟨x, rfl⟩
              obtain ⟨hxf, hxd, hxz, hxe⟩ := decoded_sound hb (by omega) hdx
              have hxc := Val.check_of hxf hxd
              have hxn := (Val.check_zero hxc).2.2
              have e1 : dval xs = x := by simp [dval, hdx]
              rw [e1]
              have h12 := spec12 x hxz (by omega) (by rw [hxn, hxe]; omega)
              rw [hxn, hxe, hxc] at h12
              have h16 := spec16 x hxz (by omega)
              rw [hxc] at h16
              apply WPA.skip
              apply WPA.seq
              apply WPA.region
              · apply Trace.pu [_] ((Pure.loadAllD ty24 (.plain rfl) rfl (by simp [Val.cells_length])).to (y := (x).av) rfl)
                apply Trace.ct (callArgs0 (.cons (.plain rfl) .nil)) h12 en12
                apply Trace.pu [] (.move (.plain rfl))
                apply Trace.pu [] (.extract (.plain rfl) rfl)
                apply Trace.pu [] (.extract (.plain rfl) rfl)
                apply Trace.pu [] (.assign (.plain rfl))
                apply Trace.pu [] (.assign (.plain rfl))
                exact .nil _
              · exact keepOK_of hk hn rfl
              apply WPA.seq
              apply WPA.region
              · apply Trace.pu [] (.move (.plain rfl))
                apply Trace.pu [] ((Pure.cmp (.plain rfl) (.plain rfl) rfl).to (y := bv true) (congrArg (fun b => bv b) (by simp)))
                apply Trace.pu [] (.move (.plain rfl))
                apply Trace.pg [] rfl (.move (.plain rfl))
                apply Trace.pg [] rfl (.strRows (xs := xs) bs27 Try.underlying9 (.gd rfl (fun h => h)) (fun _ => rfl) (fun _ i hi => rfl))
                apply Trace.pg [] rfl (.move (.plain rfl))
                apply Trace.pg [] rfl (.strRows (xs := xs) bs27 Try.underlying9 (.gd rfl (fun h => h)) (fun _ => rfl) (fun _ i hi => rfl))
                apply Trace.pg [] rfl ((Pure.seq (.gd rfl (fun h => h)) (.gd rfl (fun h => h))).to (y := bv true) (congrArg (fun b => bv b) (by simp)))
                apply Trace.pu [] (.pick (.plain rfl) (.gd rfl (by simp)) (.plain rfl))
                apply Trace.pu [] (.move (.plain rfl))
                apply Trace.pg [_] rfl ((Pure.loadAllD ty24 (.plain rfl) rfl (by simp [Val.cells_length])).to (y := (x).av) rfl)
                apply Trace.cg rfl (callArgs0 (.cons (.gd rfl (fun h => h)) .nil)) (fun _ => h16) en16
                apply Trace.pg [] rfl ((Pure.cmp (.gd rfl (fun h => h)) (.plain rfl) rfl).to (y := bv true) (congrArg (fun b => bv b) (by simp)))
                apply Trace.pu [] (.pick (.plain rfl) (.gd rfl (by simp)) (.plain rfl))
                apply Trace.pu [] (.assign (.plain rfl))
                exact .nil _
              · exact keepOK_of hk hn rfl
              apply WPA.ret
              refine ⟨.inr rfl, ⟨_, (.cons (.tmp rfl) .nil), ?_⟩, by simp [St.get]⟩
              rfl
        · apply WPA.skip
          apply WPA.seq
          apply WPA.region
          · apply Trace.pu [] (.move (.plain rfl))
            apply Trace.ct (callArgs0 (.cons (.plain rfl) .nil)) (spec18 xs (by omega) hb) en18
            apply Trace.pu [] (.move (.plain rfl))
            apply Trace.pu [] (.extract (.plain rfl) rfl)
            apply Trace.pu [] (.extract (.plain rfl) rfl)
            apply Trace.alloc 9 [] (.data _) zo24 (cellsAs_data _) rfl
            first | apply Trace.storeD ty24 (.plain rfl) (.plain rfl) rfl rfl (by simp [Val.cells_length]) (by first | exact Val.cells_one _ | simp [AV.oneB, single]) (by simp [Val.cells_length]) (spliceL_all (by simp [Val.cells_length])) | apply Trace.storeD ty24 (.plain rfl) (.plain rfl) rfl rfl (by simp [Val.cells_length]) (by first | exact Val.cells_one _ | simp [AV.oneB, single]) (by simp [Val.cells_length]) rfl | apply Trace.storeDA ty24 (.plain rfl) (.plain rfl) rfl rfl (by simp [Val.cells_length]) (by simp [AV.oneB, single]) (by simp [Val.cells_length]) rfl | apply Trace.storeLoc ty24 (.plain rfl) (.plain rfl) rfl rfl (by simp [Val.cells_length]) (by simp [AV.oneB, single]) (by simp) rfl | apply Trace.storeRow ty24 (.plain rfl) (.plain rfl) rfl rfl rfl rfl (by decide) (by simp [AV.oneB, single]) rfl (by omega)
            apply Trace.pu [] (.assign (.plain rfl))
            exact .nil _
          · exact keepOK_of hk hn rfl
          apply WPA.seq
          apply WPA.seq
          apply WPA.region
          · apply Trace.pu [] (.move (.plain rfl))
            apply Trace.pu [] (.cmp (.plain rfl) (.plain rfl) rfl)
            exact .nil _
          · exact keepOK_of hk hn rfl
          refine WPA.cond rfl (fun hc7 => ?_) (fun hc7 => ?_)
          · have hdn : decoded xs = none := by
              cases h : decoded xs with
              | none => rfl
              | some x => simp [derr, h] at hc7
            have e1 : dval xs = Val.none := by simp [dval, hdn]
            have e2 : derr xs = 10 := by simp [derr, hdn]
            rw [e1, e2]
            apply WPA.seq
            apply WPA.region
            · apply Trace.pu [] (.move (.plain rfl))
              apply Trace.pu [] ((Pure.cmp (.plain rfl) (.plain rfl) rfl).to (y := bv true) (congrArg (fun b => bv b) (by simp)))
              apply Trace.pu [] (.move (.plain rfl))
              apply Trace.pg [_] rfl ((Pure.loadAllD ty24 (.plain rfl) rfl (by simp [Val.cells_length])).to (y := (Val.none).av) rfl)
              apply Trace.pg [] rfl (.buildG zo24 pl24 (.nil _ _))
              apply Trace.cg rfl (res := .v (.bool true)) (callArgs0 (.cons (.gd rfl (fun h => h)) (.cons (.gd rfl (fun h => h)) .nil))) (fun _ => by have := FnSpec.argLe (A1 := [Val.none.av]) (A2 := []) (spec21 Val.none Val.none_sz Val.none Val.none_sz) (den_aggLe zeros_le); rwa [Val.same_refl] at this) en21
              apply Trace.pu [] (.pick (.plain rfl) (.gd rfl (by simp)) (.plain rfl))
              apply Trace.pu [] (.assign (.plain rfl))
              exact .nil _
            · exact keepOK_of hk hn rfl
            apply WPA.ret
            refine ⟨.inr rfl, ⟨_, (.cons (.tmp rfl) .nil), ?_⟩, by simp [St.get]⟩
            rfl
          · obtain ⟨x, hdx⟩ : ∃ x, decoded xs = some x := by
              cases h : decoded xs with
              | none => simp [derr, h] at hc7
              | some x => exact ⟨x, rfl⟩
            obtain ⟨hxf, hxd, hxz, hxe⟩ := decoded_sound hb (by omega) hdx
            have hxc := Val.check_of hxf hxd
            have hxn := (Val.check_zero hxc).2.2
            have e1 : dval xs = x := by simp [dval, hdx]
            rw [e1]
            have h12 := spec12 x hxz (by omega) (by rw [hxn, hxe]; omega)
            rw [hxn, hxe, hxc] at h12
            have h16 := spec16 x hxz (by omega)
            rw [hxc] at h16
            apply WPA.skip
            apply WPA.seq
            apply WPA.region
            · apply Trace.pu [_] ((Pure.loadAllD ty24 (.plain rfl) rfl (by simp [Val.cells_length])).to (y := (x).av) rfl)
              apply Trace.ct (callArgs0 (.cons (.plain rfl) .nil)) h12 en12
              apply Trace.pu [] (.move (.plain rfl))
              apply Trace.pu [] (.extract (.plain rfl) rfl)
              apply Trace.pu [] (.extract (.plain rfl) rfl)
              apply Trace.pu [] (.assign (.plain rfl))
              apply Trace.pu [] (.assign (.plain rfl))
              exact .nil _
            · exact keepOK_of hk hn rfl
            apply WPA.seq
            apply WPA.region
            · apply Trace.pu [] (.move (.plain rfl))
              apply Trace.pu [] ((Pure.cmp (.plain rfl) (.plain rfl) rfl).to (y := bv true) (congrArg (fun b => bv b) (by simp)))
              apply Trace.pu [] (.move (.plain rfl))
              apply Trace.pg [] rfl (.move (.plain rfl))
              apply Trace.pg [] rfl (.strRows (xs := xs) bs27 Try.underlying9 (.gd rfl (fun h => h)) (fun _ => rfl) (fun _ i hi => rfl))
              apply Trace.pg [] rfl (.move (.plain rfl))
              apply Trace.pg [] rfl (.strRows (xs := xs) bs27 Try.underlying9 (.gd rfl (fun h => h)) (fun _ => rfl) (fun _ i hi => rfl))
              apply Trace.pg [] rfl ((Pure.seq (.gd rfl (fun h => h)) (.gd rfl (fun h => h))).to (y := bv true) (congrArg (fun b => bv b) (by simp)))
              apply Trace.pu [] (.pick (.plain rfl) (.gd rfl (by simp)) (.plain rfl))
              apply Trace.pu [] (.move (.plain rfl))
              apply Trace.pg [_] rfl ((Pure.loadAllD ty24 (.plain rfl) rfl (by simp [Val.cells_length])).to (y := (x).av) rfl)
              apply Trace.cg rfl (callArgs0 (.cons (.gd rfl (fun h => h)) .nil)) (fun _ => h16) en16
              apply Trace.pg [] rfl ((Pure.cmp (.gd rfl (fun h => h)) (.plain rfl) rfl).to (y := bv true) (congrArg (fun b => bv b) (by simp)))
              apply Trace.pu [] (.pick (.plain rfl) (.gd rfl (by simp)) (.plain rfl))
              apply Trace.pu [] (.assign (.plain rfl))
              exact .nil _
            · exact keepOK_of hk hn rfl
            apply WPA.ret
            refine ⟨.inr rfl, ⟨_, (.cons (.tmp rfl) .nil), ?_⟩, by simp [St.get]⟩
            rfl

end Go.Proofs.Ytlccnbnnlfbfjaa

