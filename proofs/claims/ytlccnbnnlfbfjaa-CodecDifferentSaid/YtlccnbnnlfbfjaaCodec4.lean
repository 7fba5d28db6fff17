/- Encode and Size of codec. -/
import Derived.Test.YtlccnbnnlfbfjaaCodec1
import Derived.Test.YtlccnbnnlfbfjaaCodec3
namespace Go.Proofs.Ytlccnbnnlfbfjaa
open Go
set_option linter.unusedVariables false
set_option linter.unusedSimpArgs false
set_option maxRecDepth 10000

/-- What Encode hands back. -/
def Val.encoded (v : Val) : List Int := if v.check = 0 then v.enc else []
theorem Val.check_ok {v : Val} (h : v.check = 0) : v.formed = true := by
  unfold Val.check at h
  split at h
  · assumption
  · cases h
theorem Val.sz_n {k n : Int} {s : ByteArray} {l : List Val} (h : (Val.mk k n s l).Sz) : -9223372036854775808 ≤ n ∧ n ≤ 9223372036854775807 := by cases h with | mk _ _ _ _ _ h _ _ _ => exact h
theorem Val.sz_s {k n : Int} {s : ByteArray} {l : List Val} (h : (Val.mk k n s l).Sz) : s.size ≤ 140737488355328 := by cases h with | mk _ _ _ _ _ _ h _ _ => exact h
/-- soundpost/codec.Encode -/
theorem spec12 (v : Val) (hz : v.Sz) (hd : v.depth ≤ 4611686018427387904) (hl : v.encoded.length + 40 ≤ 140737488355328) : FnSpec Try.prog 12 [v.av] [] (.tup ([bytesD v.encoded, .v (.int .i64 v.check)].map .d)) [] [] := by
  refine fnSpec_of (rs := [.tmp 2, .tmp 3]) Try.func12 rfl rfl (Nat.le_of_ble_eq_true rfl) (by simp [St.get]) fun E hk hn => ?_
  apply WPA.seq
  apply WPA.region
  · apply Trace.boxD 5 [] (.plain rfl) rfl rfl
    apply Trace.pu [] (.assign (.plain rfl))
    apply Trace.pu [] (.assign (.plain rfl))
    exact .nil _
  · exact keepOK_of hk hn rfl
  apply WPA.seq
  apply WPA.seq
  apply WPA.region
  · apply Trace.pu [_] ((Pure.loadAllD ty24 (.plain rfl) rfl (by simp [Val.cells_length])).to (y := v.av) rfl)
    apply Trace.cu (callArgs0 (.cons (.plain rfl) .nil)) (spec16 v hz hd) en16
    apply Trace.pu [] (.assign (.plain rfl))
    exact .nil _
  · exact keepOK_of hk hn rfl
  apply WPA.seq
  apply WPA.region
  · apply Trace.pu [] (.move (.plain rfl))
    apply Trace.pu [] (.cmp (.plain rfl) (.plain rfl) rfl)
    exact .nil _
  · exact keepOK_of hk hn rfl
  refine WPA.cond rfl (fun hc1 => ?_) (fun hc1 => ?_)
  · have hne : v.check ≠ 0 := by simpa using hc1
    apply WPA.seq
    apply WPA.region
    · apply Trace.pu [] (.move (.plain rfl))
      apply Trace.pu [] (.assign (.plain rfl))
      apply Trace.pu [] (.assign (.plain rfl))
      exact .nil _
    · exact keepOK_of hk hn rfl
    refine WPA.ghost (Ghost.slot (t := 2) rfl (den_nilRows (n := 1) (g := fun i => [Col.at (.ints .u8 []) i]))) ?_
    apply WPA.ret
    refine ⟨.inr rfl, ⟨_, (.cons (.tmp rfl) (.cons (.tmp rfl) .nil)), ?_⟩, by simp [St.get]⟩
    have : v.encoded = [] := by simp [Val.encoded, hne]
    simp [resOf, this, bytesD, rowsD]
  · have he : v.check = 0 := by simpa using hc1
    have hf := Val.check_ok he
    have hen : v.encoded = v.enc := by simp [Val.encoded, he]
    rw [hen] at hl ⊢
    apply WPA.skip
    apply WPA.seq
    rcases v with ⟨k, n, s, l⟩
    have h1 := Val.sz_n hz
    have h2 := Val.sz_s hz
    have h3 := Val.kind_of hf
    rcases h3 with rfl | rfl | rfl
    all_goals
      apply WPA.draw mixed
      · apply Trace.cb [0, 1] [] (callArgs0 .nil) spec26 en26 .nil rfl rfl
        apply Trace.pu [] (.fieldAddr fl24_0 (.plain rfl) rfl)
        first | apply Trace.pu [_] (.loadLoc1D ty3 (.plain rfl) rfl rfl) | apply Trace.pu [_] (.loadLoc1 ty3 (.plain rfl) rfl rfl) | apply Trace.pu [] (.loadRp1 ty3 (.plain rfl) rfl) | apply Trace.pu [_] (.loadCol1 ty3 (.plain rfl) rfl rfl rfl (fun _ => by omega))
        apply Trace.pu [] (.nilCheck (.plain rfl) rfl)
        apply Trace.pu [] (.indexLoc ar66 (.plain rfl) (.plain rfl) (fun _ => by decide) rfl)
        apply Trace.pu [] (.fieldAddr fl49_0 (.plain rfl) rfl)
        first | apply Trace.pu [_] (.loadLoc1D ty47 (.plain rfl) rfl rfl) | apply Trace.pu [_] (.loadLoc1 ty47 (.plain rfl) rfl rfl) | apply Trace.pu [] (.loadRp1 ty47 (.plain rfl) rfl) | apply Trace.pu [_] (.loadCol1 ty47 (.plain rfl) rfl rfl rfl (fun _ => by omega))
        apply Trace.pu [_] ((Pure.loadAllD ty24 (.plain rfl) rfl (by simp [Val.cells_length])).to (y := (Val.mk _ n s l).av) rfl)
        first
          | apply Trace.cb [2] [] (callArgs (.plain rfl) (.cons (.plain rfl) (.cons (.plain rfl) .nil))) (FnSpec.nil (l := 2) (A1 := []) (A2 := [(Val.mk 1 n s l).av]) (spec37 [] n s l h1 (by simp)) rfl (by simp [Col.len]) rfl rfl rfl rfl) en37 .nil rfl rfl
          | apply Trace.cb [2] [] (callArgs (.plain rfl) (.cons (.plain rfl) (.cons (.plain rfl) .nil))) (FnSpec.nil (l := 2) (A1 := []) (A2 := [(Val.mk 2 n s l).av]) (spec40 [] n s l h2 (by rw [Val.enc_text] at hl; simp [bytesI_length] at hl; simp; omega)) rfl (by simp [Col.len]) rfl rfl rfl rfl) en40 .nil rfl rfl
          | apply Trace.cb [2] [bk 0, bk 1] (callArgs (.plain rfl) (.cons (.plain rfl) (.cons (.plain rfl) .nil))) (FnSpec.nil (l := 2) (A1 := []) (A2 := [(Val.mk 3 n s l).av, .loc 1 0]) (spec41 _ hz hf rfl [] (by simp; omega)) rfl (by simp [Col.len]) rfl rfl rfl rfl) en41 (.cons rfl (.cons rfl .nil)) rfl rfl
        apply Trace.pu [] (.assign (.plain rfl))
        apply Trace.pu [] (.assign (.plain rfl))
        exact .nil _
      · rfl
      · exact keepOK_of hk hn rfl
      refine WPA.ghost (Ghost.freeze' (t := 2) rfl rfl) ?_
      apply WPA.ret
      refine ⟨.inr rfl, ⟨_, (.cons (.tmp rfl) (.cons (.tmp rfl) .nil)), ?_⟩, by simp [St.get]⟩
      rw [he]; rfl
/-- soundpost/codec.Size -/
theorem spec14 (v : Val) (hz : v.Sz) (hd : v.depth ≤ 4611686018427387904) (hl : v.encoded.length + 40 ≤ 140737488355328) : FnSpec Try.prog 14 [v.av] [] (.tup ([.v (.int .i64 v.encoded.length), .v (.int .i64 v.check)].map .d)) [] [] := by
  refine fnSpec_of (rs := [.tmp 2, .tmp 3]) Try.func14 rfl rfl (Nat.le_of_ble_eq_true rfl) (by simp [St.get]) fun E hk hn => ?_
  apply WPA.seq
  apply WPA.region
  · first | apply Trace.boxD 1 [] (.plain rfl) rfl rfl | apply Trace.box 1 [] (.plain rfl) rfl rfl rfl
    apply Trace.pu [] (.assign (.plain rfl))
    apply Trace.pu [] (.assign (.plain rfl))
    exact .nil _
  · exact keepOK_of hk hn rfl
  apply WPA.seq
  apply WPA.region
  · first | apply Trace.pu [_] (.loadAllD ty24 (.plain rfl) rfl (by simp [Val.cells_length])) | apply Trace.pu [_] (.loadLocD ty24 (.plain rfl) rfl (fun _ => by simp [Val.cells_length])) | apply Trace.pu [_] (.loadLoc ty24 (.plain rfl) rfl (fun _ => Nat.le_of_ble_eq_true rfl)) | apply Trace.pu [] (.loadRp ty24 (.plain rfl) (fun _ => by decide)) | apply Trace.pu [_] (.loadCol ty24 (.plain rfl) rfl rfl (fun _ => by decide) (fun _ => by omega)) | apply Trace.pu [_] (.loadArr ty24 (.plain rfl) rfl)
    apply Trace.ct (callArgs0 (.cons (.plain rfl) .nil)) (spec12 v hz hd hl) en12
    apply Trace.pu [] (.move (.plain rfl))
    apply Trace.pu [] (.extract (.plain rfl) rfl)
    apply Trace.pu [] (.extract (.plain rfl) rfl)
    apply Trace.pu [] (.assign (.plain rfl))
    apply Trace.pu [] (.assign (.plain rfl))
    exact .nil _
  · exact keepOK_of hk hn rfl
  apply WPA.seq
  apply WPA.region
  · apply Trace.pu [] (.move (.plain rfl))
    apply Trace.pu [] (.len rfl Try.underlying27 (.plain rfl) rfl)
    apply Trace.pu [] (.move (.plain rfl))
    apply Trace.pu [] (.assign (.plain rfl))
    apply Trace.pu [] (.assign (.plain rfl))
    exact .nil _
  · exact keepOK_of hk hn rfl
  apply WPA.ret
  refine ⟨.inr rfl, ⟨_, (.cons (.tmp rfl) (.cons (.tmp rfl) .nil)), ?_⟩, by simp [St.get]⟩
  rfl

end Go.Proofs.Ytlccnbnnlfbfjaa

