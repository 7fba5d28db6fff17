/- The reader of codec: numbers and lengths. -/
import Derived.Test.YtlccnbnnlfbfjaaCodec8
import Derived.Test.YtlccnbnnlfbfjaaCodecBits
namespace Go.Proofs.Ytlccnbnnlfbfjaa
open Go
set_option linter.unusedVariables false
set_option linter.unusedSimpArgs false
set_option maxRecDepth 10000

/-- The reader that has read p bytes. -/
abbrev readAt (xs : List Int) (p : Nat) : Cont := readB xs p (xs.length - p)
theorem readAt_next (xs : List Int) (p n : Nat) : readB xs (p + n) (xs.length - p - n) = readAt xs (p + n) := by rw [Nat.sub_sub]
theorem getD_of {xs : List Int} {p : Nat} {c : Int} (h : xs[p]? = some c) : xs.getD p 0 = c := by simp [List.getD, h]
theorem cont_eq {c d : Cont} (h : c = d) : some c = some d := by rw [h]

/-- soundpost/codec.signed -/
theorem spec45 (u : Nat) (hu : u < 18446744073709551616) : FnSpec Try.prog 45 [iv .u64 u] [] (iv .i64 (zag u)) [] [] := by
  refine fnSpec_of (rs := [.tmp 2]) Try.func45 rfl rfl (Nat.le_of_ble_eq_true rfl) (by simp [St.get]) fun E hk hn => ?_
  apply WPA.seq
  apply WPA.region
  · apply Trace.pu [] (.assign (.plain rfl))
    exact .nil _
  · exact keepOK_of hk hn rfl
  apply WPA.seq
  apply WPA.region
  · apply Trace.pu [] (.move (.plain rfl))
    apply Trace.pu [] (.shr (.plain rfl) (.plain rfl) (fun _ => by decide))
    apply Trace.pu [] (.conv Try.underlying68 Try.underlying3 (.plain rfl))
    apply Trace.pu [] (.move (.plain rfl))
    apply Trace.pu [] ((Pure.bits (.plain rfl) (.plain rfl) rfl).to (y := iv .u64 ((u % 2 : Nat) : Int)) (by rw [and1 u hu]))
    apply Trace.pu [] ((Pure.conv Try.underlying68 Try.underlying3 (.plain rfl)).to (y := iv .i64 ((u % 2 : Nat) : Int)) (by rw [wrap_i64_id (by omega)]))
    apply Trace.pu [] (.neg (.plain rfl) (fun _ => bd64 (by omega)))
    apply Trace.pu [] ((Pure.bits (.plain rfl) (.plain rfl) rfl).to (y := iv .i64 (zag u)) (by rw [zag_shift hu]))
    apply Trace.pu [] (.assign (.plain rfl))
    exact .nil _
  · exact keepOK_of hk hn rfl
  apply WPA.ret
  refine ⟨.inr rfl, ⟨_, (.cons (.tmp rfl) .nil), ?_⟩, by simp [St.get]⟩
  rfl
/-- (soundpost/codec.reader).number -/
theorem spec46 (xs : List Int) (hx : xs.length ≤ 140737488355328) (hb : Bytes xs) (p : Nat) (hp : p ≤ xs.length) (v q : Nat) (h : rnumber xs p = some (v, q)) : FnSpec Try.prog 46 [.loc 0 0] [(bk 0, readAt xs p)] (iv .u64 v) [(bk 0, readAt xs q)] [0] := by
  refine fnSpec_of (rs := [.tmp 2]) Try.func46 rfl rfl (Nat.le_of_ble_eq_true rfl) (odd_of rfl) fun E hk hn => ?_
  apply WPA.seq
  apply WPA.region
  · apply Trace.pu [] (.assign (.plain rfl))
    exact .nil _
  · exact keepOK_of hk hn rfl
  apply WPA.seq
  apply WPA.region
  · apply Trace.pu [] (.assign (.plain rfl))
    exact .nil _
  · exact keepOK_of hk hn rfl
  apply WPA.block
  refine WPA.loop (σ := Nat × Nat × Nat) (fun i => [(sl 0, .av (.loc 0 0)), (sl 2, .av (iv .u64 i.2.2)), (sl 3, .av (iv .i64 i.1)), (bk 0, readAt xs i.2.1)]) (fun i => i.1 ≤ 9 ∧ i.2.2 < 128 ^ i.1 ∧ rnum xs (10 - i.1) i.2.1 i.2.2 = some (v, q) ∧ i.2.1 ≤ xs.length) (fun i => 10 - i.1) (0, p, 0)
    (St.le_cons rfl (St.le_cons rfl (St.le_cons rfl (St.le_cons rfl (St.le_nil _))))) ⟨by show 0 ≤ 9; decide, by show 0 < 1; decide, h, hp⟩ fun i hi => ?_
  clear h hp
  obtain ⟨i, p, u⟩ := i
  obtain ⟨hi9, hu, h, hp⟩ := hi
  simp only at hi9 hu h hp
  dsimp only
  rw [show 10 - i = (9 - i) + 1 by omega] at h
  obtain ⟨c, hc, hcond, hnx⟩ := rnum_step h
  have hcb := hb c (List.mem_of_getElem? hc)
  have hpl := (List.getElem?_eq_some_iff.1 hc).1
  have hdd : (c % 128).toNat < 128 := by omega
  rw [show 9 - (9 - i) = i by omega] at hnx
  have hd9 : i = 9 → (c % 128).toNat ≤ 1 := by intro h; omega
  apply WPA.seq
  apply WPA.block
  apply WPA.seq
  apply WPA.region
  · apply Trace.pu [] (.move (.plain rfl))
    apply Trace.cb [] [bk 0] (callArgs0 (.cons (.plain rfl) (.cons (.plain rfl) .nil))) (spec44 xs p (xs.length - p) 1 (by omega) (by omega) (by omega)) en44 (.cons rfl .nil) rfl rfl
    first | apply Trace.pu [] (.indexRows el27 (.plain rfl) (.plain rfl) (fun _ => ⟨by omega, by omega⟩)) | apply Trace.pu [] (.indexOwn el27 (.plain rfl) (.plain rfl) (fun _ => ⟨by omega, by omega⟩)) | apply Trace.pu [] (.indexSl el27 (.plain rfl) (.plain rfl) (fun _ => ⟨by omega, by omega⟩))
    apply Trace.pu [] ((Pure.loadRp1 ty5 (.plain rfl) rfl).to (y := iv .u8 c) (by show AV.d (.v (.int .u8 (xs.getD (p + 0) 0))) = _; rw [Nat.add_zero, getD_of hc]))
    apply Trace.pu [] (.assign (.plain rfl))
    exact .nil _
  · exact keepOK_of hk hn rfl
  apply WPA.seq
  rw [readAt_next]
  apply WPA.region
  · apply Trace.pu [] (.move (.plain rfl))
    apply Trace.pu [] (.move (.plain rfl))
    apply Trace.pu [] (.cmp (.plain rfl) (.plain rfl) rfl)
    apply Trace.pu [] (.move (.plain rfl))
    apply Trace.pg [] rfl (.move (.plain rfl))
    apply Trace.pg [] rfl (.cmp (.gd rfl (fun h => h)) (.plain rfl) rfl)
    apply Trace.pu [] (.pick (.plain rfl) (.plain rfl) (.gd rfl (by simp)))
    apply Trace.pu [] (.move (.plain rfl))
    apply Trace.pg [] rfl (.move (.plain rfl))
    apply Trace.pg [] rfl (.cmp (.gd rfl (fun h => h)) (.plain rfl) rfl)
    apply Trace.pg [] rfl (.move (.gd rfl (fun h => h)))
    apply Trace.pg [] rfl (.move (.plain rfl))
    apply Trace.pg [] rfl (.cmp (.gd rfl (fun h => h)) (.plain rfl) rfl)
    apply Trace.pg [] rfl (.pick (.gd rfl (fun h => h)) (.plain rfl) (.gd rfl (by simp)))
    apply Trace.pu [] ((Pure.pick (.plain rfl) (.gd rfl (by simp)) (.plain rfl)).to (y := bv true) (by simp; omega))
    apply Trace.ct (ds := []) (callArgs0 (.cons (.plain rfl) (.cons (.plain rfl) .nil))) (spec33 0) en33
    exact .nil _
  · exact keepOK_of hk hn rfl
  apply WPA.seq
  apply WPA.region
  · apply Trace.pu [] (.move (.plain rfl))
    apply Trace.pu [] (.move (.plain rfl))
    apply Trace.pu [] ((Pure.bits (.plain rfl) (.plain rfl) rfl).to (y := iv .u8 (((c % 128).toNat : Nat) : Int)) (by rw [and127 hcb]))
    apply Trace.pu [] ((Pure.conv Try.underlying5 Try.underlying68 (.plain rfl)).to (y := iv .u64 (((c % 128).toNat : Nat) : Int)) (by rw [wrap_u64_id (by omega)]))
    apply Trace.pu [] (.move (.plain rfl))
    apply Trace.pu [] (.arith (.plain rfl) (.plain rfl) rfl (fun _ => bd64 (by omega)))
    apply Trace.pu [] ((Pure.shl (.plain rfl) (.plain rfl) (fun _ => by omega)).to (y := iv .u64 (((c % 128).toNat * 128 ^ i : Nat) : Int)) (by rw [shl7 hi9 hdd hd9]))
    apply Trace.pu [] ((Pure.bits (.plain rfl) (.plain rfl) rfl).to (y := iv .u64 ((u + (c % 128).toNat * 128 ^ i : Nat) : Int)) (by rw [or_add hi9 hdd hd9 hu]))
    apply Trace.pu [] (.assign (.plain rfl))
    exact .nil _
  · exact keepOK_of hk hn rfl
  apply WPA.seq
  apply WPA.region
  · apply Trace.pu [] (.move (.plain rfl))
    apply Trace.pu [] (.cmp (.plain rfl) (.plain rfl) rfl)
    exact .nil _
  · exact keepOK_of hk hn rfl
  refine WPA.cond rfl (fun hc1 => ?_) (fun hc1 => ?_)
  · rcases hnx with ⟨hlt, rfl, rfl⟩ | ⟨hge, _⟩
    case inr => simp at hc1; omega
    apply WPA.seq
    apply WPA.region
    · apply Trace.pu [] (.move (.plain rfl))
      apply Trace.pu [] (.assign (.plain rfl))
      exact .nil _
    · exact keepOK_of hk hn rfl
    apply WPA.ret
    refine ⟨.inr rfl, ⟨_, (.cons (.tmp rfl) .nil), ?_⟩, blks_of (.cons rfl .nil)⟩
    rfl
  · apply WPA.skip
    apply WPA.region
    · apply Trace.pu [] (.move (.plain rfl))
      apply Trace.pu [] (.arith (.plain rfl) (.plain rfl) rfl (fun _ => bd64 (by omega)))
      apply Trace.pu [] (.assign (.plain rfl))
      exact .nil _
    · exact keepOK_of hk hn rfl
    rcases hnx with ⟨hlt, _⟩ | ⟨hge, hnx⟩
    · simp at hc1; omega
    exact ⟨(i + 1, p + 1, u + (c % 128).toNat * 128 ^ i), ⟨by show i + 1 ≤ 9; omega, digits_bd hdd hu, by show rnum xs (10 - (i + 1)) _ _ = _; rw [show 10 - (i + 1) = 9 - i by omega]; exact hnx, by show p + 1 ≤ _; omega⟩, by show 10 - (i + 1) < 10 - i; omega, St.le_cons rfl (St.le_cons rfl (St.le_cons (iv_eq (by show (i : Int) + 1 = ((i + 1 : Nat) : Int); omega)) (St.le_cons rfl (St.le_nil _))))⟩
/-- (soundpost/codec.reader).number: a panic -/
theorem panic46 (xs : List Int) (hx : xs.length ≤ 140737488355328) (hb : Bytes xs) (p : Nat) (hp : p ≤ xs.length) (h : rnumber xs p = none) : PSpec Try.prog 46 [.loc 0 0] [(bk 0, readAt xs p)] badCode := by
  refine pSpec_of Try.func46 rfl (Nat.le_of_ble_eq_true rfl) (odd_of rfl) fun E hk hn => ?_
  apply WPA.seq
  apply WPA.region
  · apply Trace.pu [] (.assign (.plain rfl))
    exact .nil _
  · exact keepOK_of hk hn rfl
  apply WPA.seq
  apply WPA.region
  · apply Trace.pu [] (.assign (.plain rfl))
    exact .nil _
  · exact keepOK_of hk hn rfl
  apply WPA.block
  refine WPA.loop (σ := Nat × Nat × Nat) (fun i => [(sl 0, .av (.loc 0 0)), (sl 2, .av (iv .u64 i.2.2)), (sl 3, .av (iv .i64 i.1)), (bk 0, readAt xs i.2.1)]) (fun i => i.1 ≤ 9 ∧ i.2.2 < 128 ^ i.1 ∧ rnum xs (10 - i.1) i.2.1 i.2.2 = none ∧ i.2.1 ≤ xs.length) (fun i => 10 - i.1) (0, p, 0)
    (St.le_cons rfl (St.le_cons rfl (St.le_cons rfl (St.le_cons rfl (St.le_nil _))))) ⟨by show 0 ≤ 9; decide, by show 0 < 1; decide, h, hp⟩ fun i hi => ?_
  clear h hp
  obtain ⟨i, p, u⟩ := i
  obtain ⟨hi9, hu, h, hp⟩ := hi
  simp only at hi9 hu h hp
  dsimp only
  rw [show 10 - i = (9 - i) + 1 by omega] at h
  have hst := rnum_stop h
  apply WPA.seq
  apply WPA.block
  apply WPA.seq
  rcases hst with hc | ⟨c, hc, hnx⟩
  · have hpl : xs.length ≤ p := by rwa [List.getElem?_eq_none_iff] at hc
    apply WPA.regionX 8
    · apply Trace.pu [] (.move (.plain rfl))
      apply Trace.cx 8 (callArgs0 (.cons (.plain rfl) (.cons (.plain rfl) .nil))) (panic44 xs p (xs.length - p) 1 (by omega) (by omega) (by omega)) en44 (.cons rfl .nil) .nil rfl rfl
      apply Trace.bot 8 rfl
      apply Trace.bot 8 rfl
      apply Trace.bot 8 rfl
      exact .nil _
    · exact keepOK_of hk hn rfl
    · rfl
  have hpl := (List.getElem?_eq_some_iff.1 hc).1
  have hcb := hb c (List.mem_of_getElem? hc)
  apply WPA.region
  · apply Trace.pu [] (.move (.plain rfl))
    apply Trace.cb [] [bk 0] (callArgs0 (.cons (.plain rfl) (.cons (.plain rfl) .nil))) (spec44 xs p (xs.length - p) 1 (by omega) (by omega) (by omega)) en44 (.cons rfl .nil) rfl rfl
    first | apply Trace.pu [] (.indexRows el27 (.plain rfl) (.plain rfl) (fun _ => ⟨by omega, by omega⟩)) | apply Trace.pu [] (.indexOwn el27 (.plain rfl) (.plain rfl) (fun _ => ⟨by omega, by omega⟩)) | apply Trace.pu [] (.indexSl el27 (.plain rfl) (.plain rfl) (fun _ => ⟨by omega, by omega⟩))
    apply Trace.pu [] ((Pure.loadRp1 ty5 (.plain rfl) rfl).to (y := iv .u8 c) (by show AV.d (.v (.int .u8 (xs.getD (p + 0) 0))) = _; rw [Nat.add_zero, getD_of hc]))
    apply Trace.pu [] (.assign (.plain rfl))
    exact .nil _
  · exact keepOK_of hk hn rfl
  apply WPA.seq
  rw [readAt_next]
  rcases hnx with hcond | ⟨hcond, hge, hnx⟩
  · apply WPA.regionX 26
    · apply Trace.pu [] (.move (.plain rfl))
      apply Trace.pu [] (.move (.plain rfl))
      apply Trace.pu [] (.cmp (.plain rfl) (.plain rfl) rfl)
      apply Trace.pu [] (.move (.plain rfl))
      apply Trace.pg [] rfl (.move (.plain rfl))
      apply Trace.pg [] rfl (.cmp (.gd rfl (fun h => h)) (.plain rfl) rfl)
      apply Trace.pu [] (.pick (.plain rfl) (.plain rfl) (.gd rfl (by simp)))
      apply Trace.pu [] (.move (.plain rfl))
      apply Trace.pg [] rfl (.move (.plain rfl))
      apply Trace.pg [] rfl (.cmp (.gd rfl (fun h => h)) (.plain rfl) rfl)
      apply Trace.pg [] rfl (.move (.gd rfl (fun h => h)))
      apply Trace.pg [] rfl (.move (.plain rfl))
      apply Trace.pg [] rfl (.cmp (.gd rfl (fun h => h)) (.plain rfl) rfl)
      apply Trace.pg [] rfl (.pick (.gd rfl (fun h => h)) (.plain rfl) (.gd rfl (by simp)))
      apply Trace.pu [] ((Pure.pick (.plain rfl) (.gd rfl (by simp)) (.plain rfl)).to (y := bv false) (by simp; intro hh; omega))
      apply Trace.cx 26 (callArgs0 (.cons (.plain rfl) (.cons (.plain rfl) .nil))) (panic33 0) en33 .nil .nil rfl rfl
      exact .nil _
    · exact keepOK_of hk hn rfl
    · rfl
  apply WPA.region
  · apply Trace.pu [] (.move (.plain rfl))
    apply Trace.pu [] (.move (.plain rfl))
    apply Trace.pu [] (.cmp (.plain rfl) (.plain rfl) rfl)
    apply Trace.pu [] (.move (.plain rfl))
    apply Trace.pg [] rfl (.move (.plain rfl))
    apply Trace.pg [] rfl (.cmp (.gd rfl (fun h => h)) (.plain rfl) rfl)
    apply Trace.pu [] (.pick (.plain rfl) (.plain rfl) (.gd rfl (by simp)))
    apply Trace.pu [] (.move (.plain rfl))
    apply Trace.pg [] rfl (.move (.plain rfl))
    apply Trace.pg [] rfl (.cmp (.gd rfl (fun h => h)) (.plain rfl) rfl)
    apply Trace.pg [] rfl (.move (.gd rfl (fun h => h)))
    apply Trace.pg [] rfl (.move (.plain rfl))
    apply Trace.pg [] rfl (.cmp (.gd rfl (fun h => h)) (.plain rfl) rfl)
    apply Trace.pg [] rfl (.pick (.gd rfl (fun h => h)) (.plain rfl) (.gd rfl (by simp)))
    apply Trace.pu [] ((Pure.pick (.plain rfl) (.gd rfl (by simp)) (.plain rfl)).to (y := bv true) (by simp; omega))
    apply Trace.ct (ds := []) (callArgs0 (.cons (.plain rfl) (.cons (.plain rfl) .nil))) (spec33 0) en33
    exact .nil _
  · exact keepOK_of hk hn rfl
  apply WPA.seq
  have hdd : (c % 128).toNat < 128 := by omega
  rw [show 9 - (9 - i) = i by omega] at hnx
  have hd9 : i = 9 → (c % 128).toNat ≤ 1 := by intro h; omega
  apply WPA.region
  · apply Trace.pu [] (.move (.plain rfl))
    apply Trace.pu [] (.move (.plain rfl))
    apply Trace.pu [] ((Pure.bits (.plain rfl) (.plain rfl) rfl).to (y := iv .u8 (((c % 128).toNat : Nat) : Int)) (by rw [and127 hcb]))
    apply Trace.pu [] ((Pure.conv Try.underlying5 Try.underlying68 (.plain rfl)).to (y := iv .u64 (((c % 128).toNat : Nat) : Int)) (by rw [wrap_u64_id (by omega)]))
    apply Trace.pu [] (.move (.plain rfl))
    apply Trace.pu [] (.arith (.plain rfl) (.plain rfl) rfl (fun _ => bd64 (by omega)))
    apply Trace.pu [] ((Pure.shl (.plain rfl) (.plain rfl) (fun _ => by omega)).to (y := iv .u64 (((c % 128).toNat * 128 ^ i : Nat) : Int)) (by rw [shl7 hi9 hdd hd9]))
    apply Trace.pu [] ((Pure.bits (.plain rfl) (.plain rfl) rfl).to (y := iv .u64 ((u + (c % 128).toNat * 128 ^ i : Nat) : Int)) (by rw [or_add hi9 hdd hd9 hu]))
    apply Trace.pu [] (.assign (.plain rfl))
    exact .nil _
  · exact keepOK_of hk hn rfl
  apply WPA.seq
  apply WPA.region
  · apply Trace.pu [] (.move (.plain rfl))
    apply Trace.pu [] (.cmp (.plain rfl) (.plain rfl) rfl)
    exact .nil _
  · exact keepOK_of hk hn rfl
  refine WPA.cond rfl (fun hc1 => ?_) (fun hc1 => ?_)
  · simp at hc1; omega
  · apply WPA.skip
    apply WPA.region
    · apply Trace.pu [] (.move (.plain rfl))
      apply Trace.pu [] (.arith (.plain rfl) (.plain rfl) rfl (fun _ => bd64 (by omega)))
      apply Trace.pu [] (.assign (.plain rfl))
      exact .nil _
    · exact keepOK_of hk hn rfl
    exact ⟨(i + 1, p + 1, u + (c % 128).toNat * 128 ^ i), ⟨by show i + 1 ≤ 9; omega, digits_bd hdd hu, by show rnum xs (10 - (i + 1)) _ _ = _; rw [show 10 - (i + 1) = 9 - i by omega]; exact hnx, by show p + 1 ≤ _; omega⟩, by show 10 - (i + 1) < 10 - i; omega, St.le_cons rfl (St.le_cons rfl (St.le_cons (iv_eq (by show (i : Int) + 1 = ((i + 1 : Nat) : Int); omega)) (St.le_cons rfl (St.le_nil _))))⟩

end Go.Proofs.Ytlccnbnnlfbfjaa

