/- Numerals: codec's and the specification's. -/
import Derived.Test.YtlccnbnnlfbfjaaTypes
import Derived.Test.YtlccnbnnlfbfjaaCodecNum
namespace Go.Proofs.Ytlccnbnnlfbfjaa
open Go
set_option linter.unusedVariables false
set_option linter.unusedSimpArgs false
set_option maxRecDepth 10000

/-- soundpost/codec.unsigned -/
theorem spec39 (n : Int) (h : -9223372036854775808 ≤ n ∧ n ≤ 9223372036854775807) : FnSpec Try.prog 39 [iv .i64 n] [] (iv .u64 (zig n)) [] [] := by
  refine fnSpec_of (rs := [.tmp 2]) Try.func39 rfl rfl (Nat.le_of_ble_eq_true rfl) (by simp [St.get]) fun E hk hn => ?_
  apply WPA.seq
  apply WPA.region
  · apply Trace.pu [] (.assign (.plain rfl))
    exact .nil _
  · exact keepOK_of hk hn rfl
  apply WPA.seq
  apply WPA.region
  · apply Trace.pu [] (.move (.plain rfl))
    apply Trace.pu [] (.conv Try.underlying3 Try.underlying68 (.plain rfl))
    apply Trace.pu [] (.shl (.plain rfl) (.plain rfl) (fun _ => by decide))
    apply Trace.pu [] (.move (.plain rfl))
    apply Trace.pu [] (.shr (.plain rfl) (.plain rfl) (fun _ => by decide))
    apply Trace.pu [] (.conv Try.underlying3 Try.underlying68 (.plain rfl))
    apply Trace.pu [] ((Pure.bits (.plain rfl) (.plain rfl) rfl).to (y := iv .u64 (zig n)) (by rw [zig_shift h]))
    apply Trace.pu [] (.assign (.plain rfl))
    exact .nil _
  · exact keepOK_of hk hn rfl
  apply WPA.ret
  refine ⟨.inr rfl, ⟨_, (.cons (.tmp rfl) .nil), ?_⟩, by simp [St.get]⟩
  rfl
/-- soundpost/codec.numeral -/
theorem spec38 (xs : List Int) (u : Nat) (hu : u < 18446744073709551616) (hx : xs.length + 20 ≤ 140737488355328) : FnSpec Try.prog 38 [.own 0 xs.length, iv .u64 u] [(bk 0, .blk (.app 1 xs.length [.ints .u8 xs]))] (.own 1 (xs ++ dig u).length) [(bk 1, .blk (.app 1 (xs ++ dig u).length [.ints .u8 (xs ++ dig u)]))] [] := by
  refine fnSpec_of (rs := [.tmp 4]) Try.func38 rfl rfl (Nat.le_of_ble_eq_true rfl) (odd_of rfl) fun E hk hn => ?_
  apply WPA.seq
  apply WPA.region
  · apply Trace.pu [] (.assign (.plain rfl))
    exact .nil _
  · exact keepOK_of hk hn rfl
  apply WPA.seq
  apply WPA.block
  refine WPA.loop (σ := List Int × Nat) (fun i => [(sl 0, .av (.own 0 i.1.length)), (sl 1, .av (iv .u64 i.2)), (bk 0, .blk (.app 1 i.1.length [.ints .u8 i.1]))]) (fun i => i.1 ++ dig i.2 = xs ++ dig u ∧ i.2 < 18446744073709551616 ∧ i.1.length ≤ xs.length + 10) (fun i => i.2) (xs, u)
    (St.le_cons rfl (St.le_cons rfl (St.le_cons rfl (St.le_nil _)))) ⟨rfl, hu, by simp⟩ fun i hi => ?_
  obtain ⟨ys, z⟩ := i
  obtain ⟨hi1, hi2, hi3⟩ := hi
  simp only at hi1 hi2 hi3
  dsimp only
  apply WPA.seq
  apply WPA.seq
  apply WPA.region
  · apply Trace.pu [] (.move (.plain rfl))
    apply Trace.pu [] (.cmp (.plain rfl) (.plain rfl) rfl)
    exact .nil _
  · exact keepOK_of hk hn rfl
  refine WPA.cond rfl (fun hc1 => ?_) (fun hc1 => ?_)
  · have hz : 128 ≤ z := by simp at hc1; omega
    have hlen : ys.length < xs.length + 10 := by
      have h1 := congrArg List.length hi1
      have h2 := dig_pos z
      have h3 := dig_length10 hu
      simp only [List.length_append] at h1
      omega
    apply WPA.skip
    apply WPA.seq
    apply WPA.block
    apply WPA.region
    · apply Trace.pu [] (.move (.plain rfl))
      apply Trace.pu [] (.move (.plain rfl))
      apply Trace.pu [] (.conv Try.underlying68 Try.underlying5 (.plain rfl))
      apply Trace.pu [] ((Pure.bits (.plain rfl) (.plain rfl) rfl).to (y := iv .u8 ((z % 128 + 128 : Nat) : Int)) (by rw [or128]))
      apply Trace.buildSlice 13 [] so27 zo5 rfl (by decide) (by decide) (.cons (.plain rfl) rfl rfl (Nat.le_of_ble_eq_true rfl) (.nil _ _)) rfl rfl rfl
      apply Trace.append 0 [sl 0, sl 9] ap27 kd27 (by decide) (.own (.plain rfl) rfl) (.own (.plain rfl) rfl) (Col.ones rfl) (labs_ok rfl) (by omega) (by omega) rfl rfl
      apply Trace.pu [] (.assign (.plain rfl))
      exact .nil _
    · exact keepOK_of hk hn rfl
    apply WPA.region
    · apply Trace.pu [] (.move (.plain rfl))
      apply Trace.pu [] ((Pure.shr (.plain rfl) (.plain rfl) (fun _ => by decide)).to (y := iv .u64 ((z / 128 : Nat) : Int)) (by rw [shr7]))
      apply Trace.pu [] (.assign (.plain rfl))
      exact .nil _
    · exact keepOK_of hk hn rfl
    exact ⟨(ys ++ [((z % 128 + 128 : Nat) : Int)], z / 128), ⟨by rw [← hi1, dig_ge hz]; simp, by show z / 128 < _; omega, by simp; omega⟩, by show z / 128 < z; omega,
      St.le_cons (by simp; rfl) (St.le_cons rfl (St.le_cons (by simp; rfl) (St.le_nil _)))⟩
  · have hz : z < 128 := by simp at hc1; omega
    apply WPA.exit
    apply WPA.seq
    apply WPA.region
    · apply Trace.pu [] (.move (.plain rfl))
      apply Trace.pu [] (.move (.plain rfl))
      apply Trace.pu [] ((Pure.conv Try.underlying68 Try.underlying5 (.plain rfl)).to (y := iv .u8 (z : Int)) (by rw [byte_of _ hz]))
      apply Trace.buildSlice 18 [] so27 zo5 rfl (by decide) (by decide) (.cons (.plain rfl) rfl rfl (Nat.le_of_ble_eq_true rfl) (.nil _ _)) rfl rfl rfl
      apply Trace.append 1 [bk 0] ap27 kd27 (by decide) (.own (.plain rfl) rfl) (.own (.plain rfl) rfl) (Col.ones rfl) (labs_ok rfl) (by omega) (by omega) rfl rfl
      apply Trace.pu [] (.assign (.plain rfl))
      exact .nil _
    · exact keepOK_of hk hn rfl
    apply WPA.ret
    refine ⟨.inr rfl, ⟨_, (.cons (.tmp rfl) .nil), ?_⟩, blks_of (.cons (app_eq (by rw [← hi1, dig_lt hz]) (by rw [← hi1, dig_lt hz]; simp)) .nil)⟩
    exact own_eq (by rw [← hi1, dig_lt hz]; simp)
/-- soundpost/soundpostref01.unsigned -/
theorem spec43 (n : Int) (h : -9223372036854775808 ≤ n ∧ n ≤ 9223372036854775807) : FnSpec Try.prog 43 [iv .i64 n] [] (iv .u64 (zig n)) [] [] := by
  refine fnSpec_of (rs := [.tmp 2]) Try.func43 rfl rfl (Nat.le_of_ble_eq_true rfl) (by simp [St.get]) fun E hk hn => ?_
  apply WPA.seq
  apply WPA.region
  · apply Trace.pu [] (.assign (.plain rfl))
    exact .nil _
  · exact keepOK_of hk hn rfl
  apply WPA.seq
  apply WPA.seq
  apply WPA.region
  · apply Trace.pu [] (.move (.plain rfl))
    apply Trace.pu [] (.cmp (.plain rfl) (.plain rfl) rfl)
    exact .nil _
  · exact keepOK_of hk hn rfl
  refine WPA.cond rfl (fun hc1 => ?_) (fun hc1 => ?_)
  · apply WPA.seq
    apply WPA.region
    · apply Trace.pu [] (.move (.plain rfl))
      apply Trace.pu [] (.conv Try.underlying3 Try.underlying68 (.plain rfl))
      apply Trace.pu [] (.arithW (.plain rfl) (.plain rfl) rfl)
      apply Trace.pu [] (.assign (.plain rfl))
      exact .nil _
    · exact keepOK_of hk hn rfl
    apply WPA.ret
    refine ⟨.inr rfl, ⟨_, (.cons (.tmp rfl) .nil), ?_⟩, by simp [St.get]⟩
    have h0 : 0 ≤ n := by simpa using hc1
    simp [resOf, D.ofV, wrap_u64, zig, h0]; omega
  · have h0 : ¬ 0 ≤ n := by simpa using hc1
    apply WPA.skip
    apply WPA.seq
    apply WPA.region
    · apply Trace.pu [] (.move (.plain rfl))
      apply Trace.pu [] (.arith (.plain rfl) (.plain rfl) rfl (fun _ => bd64 (by omega)))
      apply Trace.pu [] (.neg (.plain rfl) (fun _ => bd64 (by omega)))
      apply Trace.pu [] (.conv Try.underlying3 Try.underlying68 (.plain rfl))
      apply Trace.pu [] (.arithW (.plain rfl) (.plain rfl) rfl)
      apply Trace.pu [] (.arithW (.plain rfl) (.plain rfl) rfl)
      apply Trace.pu [] (.assign (.plain rfl))
      exact .nil _
    · exact keepOK_of hk hn rfl
    apply WPA.ret
    refine ⟨.inr rfl, ⟨_, (.cons (.tmp rfl) .nil), ?_⟩, by simp [St.get]⟩
    simp [resOf, D.ofV, wrap_u64, zig, h0]; omega
/-- soundpost/soundpostref01.numeral -/
theorem spec42 (u : Nat) (hu : u < 18446744073709551616) : FnSpec Try.prog 42 [iv .u64 u] [] (.own 1 (dig u).length) [(bk 1, .blk (.app 1 (dig u).length [.ints .u8 (dig u)]))] [] := by
  revert hu
  induction u using Nat.strongRecOn
  rename_i u ih
  intro hu
  refine fnSpec_of (rs := [.tmp 2]) Try.func42 rfl rfl (Nat.le_of_ble_eq_true rfl) (by simp [St.get]) fun E hk hn => ?_
  apply WPA.seq
  apply WPA.region
  · apply Trace.pu [] (.assign (.plain rfl))
    exact .nil _
  · exact keepOK_of hk hn rfl
  apply WPA.seq
  apply WPA.seq
  apply WPA.region
  · apply Trace.pu [] (.move (.plain rfl))
    apply Trace.pu [] (.cmp (.plain rfl) (.plain rfl) rfl)
    exact .nil _
  · exact keepOK_of hk hn rfl
  refine WPA.cond rfl (fun hc1 => ?_) (fun hc1 => ?_)
  · have hz : u < 128 := by simp at hc1; omega
    apply WPA.seq
    apply WPA.region
    · apply Trace.pu [] (.move (.plain rfl))
      apply Trace.pu [] ((Pure.conv Try.underlying68 Try.underlying5 (.plain rfl)).to (y := iv .u8 (u : Int)) (by rw [byte_of _ hz]))
      apply Trace.buildSlice 1 [] so27 zo5 rfl (by decide) (by decide) (.cons (.plain rfl) rfl rfl (Nat.le_of_ble_eq_true rfl) (.nil _ _)) rfl rfl rfl
      apply Trace.pu [] (.assign (.plain rfl))
      exact .nil _
    · exact keepOK_of hk hn rfl
    apply WPA.ret
    refine ⟨.inr rfl, ⟨_, (.cons (.tmp rfl) .nil), ?_⟩, by first | exact blks_of (.cons (app_eq (by rw [dig_lt hz]) (by rw [dig_lt hz]; rfl)) .nil) | exact blks_of (.cons (app_eq (by rw [dig_ge hz]; rfl) (by rw [dig_ge hz]; simp; omega)) .nil)⟩
    exact own_eq (by rw [dig_lt hz]; rfl)
  · have hz : 128 ≤ u := by simp at hc1; omega
    have hl := dig_length10 (u := u / 128) (by omega)
    apply WPA.skip
    apply WPA.seq
    apply WPA.region
    · apply Trace.pu [] (.move (.plain rfl))
      apply Trace.pu [] (.rem (.plain rfl) (.plain rfl) (fun _ => by decide))
      apply Trace.pu [] (.arithW (.plain rfl) (.plain rfl) rfl)
      apply Trace.pu [] ((Pure.conv Try.underlying68 Try.underlying5 (.plain rfl)).to (y := iv .u8 ((u % 128 + 128 : Nat) : Int)) (by rw [rem128 u]))
      apply Trace.buildSlice 12 [] so27 zo5 rfl (by decide) (by decide) (.cons (.plain rfl) rfl rfl (Nat.le_of_ble_eq_true rfl) (.nil _ _)) rfl rfl rfl
      apply Trace.pu [] (.move (.plain rfl))
      apply Trace.pu [] ((Pure.quo (.plain rfl) (.plain rfl) (fun _ => by decide)).to (y := iv .u64 ((u / 128 : Nat) : Int)) (by rw [quo128 u hu]))
      apply Trace.cb [15] [] (callArgs0 (.cons (.plain rfl) .nil)) ((ih (u / 128) (by omega) (by omega)).as 1 15 rfl rfl rfl rfl rfl rfl rfl) en42 .nil rfl rfl
      apply Trace.append 1 [bk 12] ap27 kd27 (by decide) (.own (.plain rfl) rfl) (.own (.plain rfl) rfl) (Col.ones rfl) (labs_ok rfl) (by omega) (by omega) rfl rfl
      apply Trace.pu [] (.assign (.plain rfl))
      exact .nil _
    · exact keepOK_of hk hn rfl
    apply WPA.ret
    refine ⟨.inr rfl, ⟨_, (.cons (.tmp rfl) .nil), ?_⟩, by first | exact blks_of (.cons (app_eq (by rw [dig_lt hz]) (by rw [dig_lt hz]; rfl)) .nil) | exact blks_of (.cons (app_eq (by rw [dig_ge hz]; rfl) (by rw [dig_ge hz]; simp; omega)) .nil)⟩
    exact own_eq (by rw [dig_ge hz]; simp; omega)

end Go.Proofs.Ytlccnbnnlfbfjaa

