/- The specification's reader. -/
import Derived.Test.YtlccnbnnlfbfjaaCodec9
import Derived.Test.YtlccnbnnlfbfjaaCodecBad
namespace Go.Proofs.Ytlccnbnnlfbfjaa
open Go
set_option linter.unusedVariables false
set_option linter.unusedSimpArgs false
set_option maxRecDepth 10000

/-- The specification's reader: the bytes, the place, whether it is bad. -/
abbrev RB (xs : List Int) (p : Nat) (b : Bool) : Cont := .blk (.data [restD xs 0 xs.length, .v (.int .i64 p), .v (.bool b)])
/-- (soundpost/soundpostref01.Reader).next -/
theorem spec48 (xs : List Int) (hx : xs.length ≤ 1000000) (hb : Bytes xs) (p : Nat) (hp : p ≤ xs.length) : FnSpec Try.prog 48 [.loc 0 0] [(bk 0, RB xs p false)] (iv .u8 (nc xs p)) [(bk 0, RB xs (np xs p) (nb xs p))] [0] := by
  refine fnSpec_of (rs := [.tmp 2]) Try.func48 rfl rfl (Nat.le_of_ble_eq_true rfl) (odd_of rfl) fun E hk hn => ?_
  apply WPA.seq
  apply WPA.region
  · apply Trace.pu [] (.assign (.plain rfl))
    exact .nil _
  · exact keepOK_of hk hn rfl
  apply WPA.seq
  apply WPA.seq
  apply WPA.draw mixed
  · apply Trace.pu [] (.move (.plain rfl))
    apply Trace.pu [] (.nilCheck (.plain rfl) rfl)
    apply Trace.pu [] (.fieldAddr fl62_1 (.plain rfl) rfl)
    first | apply Trace.pu [_] (.loadLoc1D ty3 (.plain rfl) rfl rfl) | apply Trace.pu [_] (.loadLoc1 ty3 (.plain rfl) rfl rfl) | apply Trace.pu [] (.loadRp1 ty3 (.plain rfl) rfl) | apply Trace.pu [_] (.loadCol1 ty3 (.plain rfl) rfl rfl rfl (fun _ => by omega))
    apply Trace.pu [] (.move (.plain rfl))
    apply Trace.pu [] (.nilCheck (.plain rfl) rfl)
    apply Trace.pu [] (.fieldAddr fl62_0 (.plain rfl) rfl)
    first | apply Trace.pu [_] (.loadLoc1D ty27 (.plain rfl) rfl rfl) | apply Trace.pu [_] (.loadLoc1 ty27 (.plain rfl) rfl rfl) | apply Trace.pu [] (.loadRp1 ty27 (.plain rfl) rfl) | apply Trace.pu [_] (.loadCol1 ty27 (.plain rfl) rfl rfl rfl (fun _ => by omega))
    apply Trace.pu [] (.len rfl Try.underlying27 (.plain rfl) rfl)
    apply Trace.pu [] (.cmp (.plain rfl) (.plain rfl) rfl)
    exact .nil _
  · rfl
  · exact keepOK_of hk hn rfl
  refine WPA.cond rfl (fun hc1 => ?_) (fun hc1 => ?_)
  · have hlt : xs.length ≤ p := by simpa using hc1
    obtain ⟨e1, e2, e3⟩ := nc_none (List.getElem?_eq_none hlt)
    rw [e1, e2, e3]
    apply WPA.seq
    apply WPA.region
    · apply Trace.pu [] (.move (.plain rfl))
      apply Trace.pu [] (.nilCheck (.plain rfl) rfl)
      apply Trace.pu [] (.fieldAddr fl62_2 (.plain rfl) rfl)
      first | apply Trace.storeD ty4 (.plain rfl) (.plain rfl) rfl rfl rfl (by simp [AV.oneB, single]) (Nat.le_of_ble_eq_true rfl) rfl | apply Trace.storeDA ty4 (.plain rfl) (.plain rfl) rfl rfl rfl (by simp [AV.oneB, single]) (Nat.le_of_ble_eq_true rfl) rfl | apply Trace.storeLoc ty4 (.plain rfl) (.plain rfl) rfl rfl rfl (by simp [AV.oneB, single]) (Nat.le_of_ble_eq_true rfl) rfl | apply Trace.storeRow ty4 (.plain rfl) (.plain rfl) rfl rfl rfl rfl (by decide) (by simp [AV.oneB, single]) rfl (by omega)
      exact .nil _
    · exact keepOK_of hk hn rfl
    apply WPA.seq
    apply WPA.region
    · apply Trace.pu [] (.assign (.plain rfl))
      exact .nil _
    · exact keepOK_of hk hn rfl
    apply WPA.ret
    refine ⟨.inr rfl, ⟨_, (.cons (.tmp rfl) .nil), ?_⟩, blks_of (.cons (by first | rfl | (simp [spliceL]; rfl)) .nil)⟩
    rfl
  · have hlt : p < xs.length := by simpa using hc1
    obtain ⟨e1, e2, e3⟩ := nc_some (List.getElem?_eq_getElem hlt)
    have e4 := getD_of (List.getElem?_eq_getElem hlt)
    rw [e1, e2, e3]
    apply WPA.skip
    apply WPA.seq
    apply WPA.region
    · apply Trace.pu [] (.move (.plain rfl))
      apply Trace.pu [] (.nilCheck (.plain rfl) rfl)
      apply Trace.pu [] (.fieldAddr fl62_1 (.plain rfl) rfl)
      first | apply Trace.pu [_] (.loadLoc1D ty3 (.plain rfl) rfl rfl) | apply Trace.pu [_] (.loadLoc1 ty3 (.plain rfl) rfl rfl) | apply Trace.pu [] (.loadRp1 ty3 (.plain rfl) rfl) | apply Trace.pu [_] (.loadCol1 ty3 (.plain rfl) rfl rfl rfl (fun _ => by omega))
      apply Trace.pu [] (.arith (.plain rfl) (.plain rfl) rfl (fun _ => bd64 (by omega)))
      apply Trace.pu [] (.nilCheck (.plain rfl) rfl)
      apply Trace.pu [] (.fieldAddr fl62_1 (.plain rfl) rfl)
      first | apply Trace.storeD ty3 (.plain rfl) (.plain rfl) rfl rfl rfl (by simp [AV.oneB, single]) (Nat.le_of_ble_eq_true rfl) rfl | apply Trace.storeDA ty3 (.plain rfl) (.plain rfl) rfl rfl rfl (by simp [AV.oneB, single]) (Nat.le_of_ble_eq_true rfl) rfl | apply Trace.storeLoc ty3 (.plain rfl) (.plain rfl) rfl rfl rfl (by simp [AV.oneB, single]) (Nat.le_of_ble_eq_true rfl) rfl | apply Trace.storeRow ty3 (.plain rfl) (.plain rfl) rfl rfl rfl rfl (by decide) (by simp [AV.oneB, single]) rfl (by omega)
      exact .nil _
    · exact keepOK_of hk hn rfl
    apply WPA.seq
    apply WPA.draw mixed
    · apply Trace.pu [] (.move (.plain rfl))
      apply Trace.pu [] (.nilCheck (.plain rfl) rfl)
      apply Trace.pu [] (.fieldAddr fl62_0 (.plain rfl) rfl)
      first | apply Trace.pu [_] (.loadLoc1D ty27 (.plain rfl) rfl rfl) | apply Trace.pu [_] (.loadLoc1 ty27 (.plain rfl) rfl rfl) | apply Trace.pu [] (.loadRp1 ty27 (.plain rfl) rfl) | apply Trace.pu [_] (.loadCol1 ty27 (.plain rfl) rfl rfl rfl (fun _ => by omega))
      apply Trace.pu [] (.move (.plain rfl))
      apply Trace.pu [] (.nilCheck (.plain rfl) rfl)
      apply Trace.pu [] (.fieldAddr fl62_1 (.plain rfl) rfl)
      first | apply Trace.pu [_] (.loadLoc1D ty3 (.plain rfl) rfl rfl) | apply Trace.pu [_] (.loadLoc1 ty3 (.plain rfl) rfl rfl) | apply Trace.pu [] (.loadRp1 ty3 (.plain rfl) rfl) | apply Trace.pu [_] (.loadCol1 ty3 (.plain rfl) rfl rfl rfl (fun _ => by omega))
      apply Trace.pu [] (.arith (.plain rfl) (.plain rfl) rfl (fun _ => bd64 (by omega)))
      first | apply Trace.pu [] (.indexRows el27 (.plain rfl) (.plain rfl) (fun _ => ⟨by omega, by omega⟩)) | apply Trace.pu [] (.indexOwn el27 (.plain rfl) (.plain rfl) (fun _ => ⟨by omega, by omega⟩)) | apply Trace.pu [] (.indexSl el27 (.plain rfl) (.plain rfl) (fun _ => ⟨by omega, by omega⟩))
      apply Trace.pu [] ((Pure.loadRp1 ty5 (.plain rfl) rfl).to (y := iv .u8 xs[p]) (by show AV.d (.v (.int .u8 (xs.getD (0 + ((p : Int) + 1 - 1).toNat) 0))) = _; rw [show 0 + ((p : Int) + 1 - 1).toNat = p by omega, e4]))
      apply Trace.pu [] (.assign (.plain rfl))
      exact .nil _
    · rfl
    · exact keepOK_of hk hn rfl
    apply WPA.ret
    refine ⟨.inr rfl, ⟨_, (.cons (.tmp rfl) .nil), ?_⟩, blks_of (.cons (by first | rfl | (simp [spliceL]; rfl)) .nil)⟩
    rfl
/-- (soundpost/soundpostref01.Reader).number -/
theorem spec49 (xs : List Int) (hx : xs.length ≤ 1000000) (hb : Bytes xs) (p : Nat) (hp : p ≤ xs.length) : FnSpec Try.prog 49 [.loc 0 0] [(bk 0, RB xs p false)] (iv .u64 (bnum xs p).1) [(bk 0, RB xs (bnum xs p).2.1 (bnum xs p).2.2)] [0] := by
  refine fnSpec_of (rs := [.tmp 2]) Try.func49 rfl rfl (Nat.le_of_ble_eq_true rfl) (odd_of rfl) fun E hk hn => ?_
  apply WPA.seq
  apply WPA.region
  · apply Trace.pu [] (.assign (.plain rfl))
    exact .nil _
  · exact keepOK_of hk hn rfl
  apply WPA.seq
  apply WPA.region
  · apply Trace.pu [] (.assign (.plain rfl))
    exact .nil _
  · exact keepOK_of hk hn rfl
  apply WPA.seq
  apply WPA.seq
  apply WPA.region
  · apply Trace.pu [] (.assign (.plain rfl))
    exact .nil _
  · exact keepOK_of hk hn rfl
  apply WPA.block
  refine WPA.loop (σ := Nat × Nat × Nat) (fun i => [(sl 0, .av (.loc 0 0)), (sl 3, .av (iv .u64 i.2.2)), (sl 4, .av (iv .i64 i.1)), (bk 0, RB xs i.2.1 false)]) (fun i => i.1 ≤ 9 ∧ i.2.2 < 128 ^ i.1 ∧ bnumF xs (10 - i.1) i.2.1 i.2.2 = bnum xs p ∧ i.2.1 ≤ xs.length) (fun i => 10 - i.1) (0, p, 0)
    (St.le_cons rfl (St.le_cons rfl (St.le_cons rfl (St.le_cons rfl (St.le_nil _))))) ⟨by show 0 ≤ 9; decide, by show 0 < 1; decide, rfl, hp⟩ fun i hi => ?_
  generalize bnum xs p = z at hi ⊢
  clear hp
  obtain ⟨i, p, u⟩ := i
  obtain ⟨hi9, hu, h, hp⟩ := hi
  simp only at hi9 hu h hp
  dsimp only
  rw [show 10 - i = (9 - i) + 1 by omega, bnumF, show 9 - (9 - i) = i by omega] at h
  have hcb := nc_bd hb p
  have hdd : (nc xs p % 128).toNat < 128 := by omega
  have hpl := np_le hp
  apply WPA.seq
  apply WPA.seq
  apply WPA.region
  · apply Trace.pu [] (.move (.plain rfl))
    apply Trace.pu [] (.nilCheck (.plain rfl) rfl)
    apply Trace.pu [] (.fieldAddr fl62_2 (.plain rfl) rfl)
    first | apply Trace.pu [_] (.loadLoc1D ty4 (.plain rfl) rfl rfl) | apply Trace.pu [_] (.loadLoc1 ty4 (.plain rfl) rfl rfl) | apply Trace.pu [] (.loadRp1 ty4 (.plain rfl) rfl) | apply Trace.pu [_] (.loadCol1 ty4 (.plain rfl) rfl rfl rfl (fun _ => by omega))
    apply Trace.pu [] (.not (.plain rfl))
    exact .nil _
  · exact keepOK_of hk hn rfl
  refine WPA.cond rfl (fun hc1 => ?_) (fun hc1 => ?_)
  · apply WPA.skip
    apply WPA.seq
    apply WPA.block
    apply WPA.seq
    apply WPA.region
    · apply Trace.pu [] (.move (.plain rfl))
      apply Trace.cb [] [bk 0] (callArgs0 (.cons (.plain rfl) .nil)) (spec48 xs hx hb p hp) en48 (.cons rfl .nil) rfl rfl
      apply Trace.pu [] (.assign (.plain rfl))
      exact .nil _
    · exact keepOK_of hk hn rfl
    apply WPA.seq
    apply WPA.seq
    apply WPA.region
    · apply Trace.pu [] (.move (.plain rfl))
      apply Trace.pu [] (.cmp (.plain rfl) (.plain rfl) rfl)
      apply Trace.pu [] (.move (.plain rfl))
      apply Trace.pg [] rfl (.move (.plain rfl))
      apply Trace.pg [] rfl (.cmp (.gd rfl (fun h => h)) (.plain rfl) rfl)
      apply Trace.pu [] (.pick (.plain rfl) (.gd rfl (by simp)) (.plain rfl))
      apply Trace.pu [] (.move (.plain rfl))
      apply Trace.pg [] rfl (.move (.plain rfl))
      apply Trace.pg [] rfl (.cmp (.gd rfl (fun h => h)) (.plain rfl) rfl)
      apply Trace.pg [] rfl (.move (.gd rfl (fun h => h)))
      apply Trace.pg [] rfl (.move (.plain rfl))
      apply Trace.pg [] rfl (.cmp (.gd rfl (fun h => h)) (.plain rfl) rfl)
      apply Trace.pg [] rfl (.pick (.gd rfl (fun h => h)) (.gd rfl (by simp)) (.plain rfl))
      apply Trace.pu [] ((Pure.pick (.plain rfl) (.plain rfl) (.gd rfl (by simp))).to (y := bv (!decide ((9 - i = 9 ∨ nc xs p ≠ 0) ∧ (9 - i ≠ 0 ∨ nc xs p ≤ 1)))) (congrArg (fun b => bv b) (by rw [Bool.eq_iff_iff]; simp; omega)))
      exact .nil _
    · exact keepOK_of hk hn rfl
    refine WPA.cond rfl (fun hc2 => ?_) (fun hc2 => ?_)
    · have hcond : ¬ ((9 - i = 9 ∨ nc xs p ≠ 0) ∧ (9 - i ≠ 0 ∨ nc xs p ≤ 1)) := by
        have := hc2
        simp at this
        omega
      rw [if_neg hcond] at h
      subst h
      apply WPA.seq
      apply WPA.region
      · apply Trace.pu [] (.move (.plain rfl))
        apply Trace.pu [] (.nilCheck (.plain rfl) rfl)
        apply Trace.pu [] (.fieldAddr fl62_2 (.plain rfl) rfl)
        first | apply Trace.storeD ty4 (.plain rfl) (.plain rfl) rfl rfl rfl (by simp [AV.oneB, single]) (Nat.le_of_ble_eq_true rfl) rfl | apply Trace.storeDA ty4 (.plain rfl) (.plain rfl) rfl rfl rfl (by simp [AV.oneB, single]) (Nat.le_of_ble_eq_true rfl) rfl | apply Trace.storeLoc ty4 (.plain rfl) (.plain rfl) rfl rfl rfl (by simp [AV.oneB, single]) (Nat.le_of_ble_eq_true rfl) rfl | apply Trace.storeRow ty4 (.plain rfl) (.plain rfl) rfl rfl rfl rfl (by decide) (by simp [AV.oneB, single]) rfl (by omega)
        exact .nil _
      · exact keepOK_of hk hn rfl
      apply WPA.seq
      apply WPA.region
      · apply Trace.pu [] (.assign (.plain rfl))
        exact .nil _
      · exact keepOK_of hk hn rfl
      apply WPA.ret
      refine ⟨.inr rfl, ⟨_, (.cons (.tmp rfl) .nil), ?_⟩, blks_of (.cons (by first | rfl | (simp [spliceL]; rfl)) .nil)⟩
      rfl
    · have hcond : (9 - i = 9 ∨ nc xs p ≠ 0) ∧ (9 - i ≠ 0 ∨ nc xs p ≤ 1) := by
        have := hc2
        simp at this
        omega
      rw [if_pos hcond] at h
      have hd9 : i = 9 → (nc xs p % 128).toNat ≤ 1 := by intro h; omega
      apply WPA.skip
      apply WPA.seq
      apply WPA.region
      · apply Trace.pu [] (.move (.plain rfl))
        apply Trace.pu [] (.move (.plain rfl))
        apply Trace.pu [] ((Pure.rem (.plain rfl) (.plain rfl) (fun _ => by decide)).to (y := iv .u8 (((nc xs p % 128).toNat : Nat) : Int)) (by rw [Int.tmod_eq_emod_of_nonneg (by omega)]; congr 3; omega))
        apply Trace.pu [] ((Pure.conv Try.underlying5 Try.underlying68 (.plain rfl)).to (y := iv .u64 (((nc xs p % 128).toNat : Nat) : Int)) (by rw [wrap_u64_id (by omega)]))
        apply Trace.pu [] (.move (.plain rfl))
        apply Trace.pu [] (.arith (.plain rfl) (.plain rfl) rfl (fun _ => bd64 (by omega)))
        apply Trace.pu [] ((Pure.shl (.plain rfl) (.plain rfl) (fun _ => by omega)).to (y := iv .u64 (((nc xs p % 128).toNat * 128 ^ i : Nat) : Int)) (by rw [shl7 hi9 hdd hd9]))
        apply Trace.pu [] ((Pure.arithW (.plain rfl) (.plain rfl) rfl).to (y := iv .u64 ((u + (nc xs p % 128).toNat * 128 ^ i : Nat) : Int)) (by have h1 := digit_bd hi9 hdd hd9; have h2 := pow128_le hi9; rw [wrap_u64_id (by omega)]; congr 3))
        apply Trace.pu [] (.assign (.plain rfl))
        exact .nil _
      · exact keepOK_of hk hn rfl
      apply WPA.seq
      apply WPA.region
      · apply Trace.pu [] (.move (.plain rfl))
        apply Trace.pu [] (.cmp (.plain rfl) (.plain rfl) rfl)
        exact .nil _
      · exact keepOK_of hk hn rfl
      refine WPA.cond rfl (fun hc3 => ?_) (fun hc3 => ?_)
      · have hlt : nc xs p < 128 := by simpa using hc3
        rw [if_pos hlt] at h
        subst h
        apply WPA.seq
        apply WPA.region
        · apply Trace.pu [] (.move (.plain rfl))
          apply Trace.pu [] (.assign (.plain rfl))
          exact .nil _
        · exact keepOK_of hk hn rfl
        apply WPA.ret
        refine ⟨.inr rfl, ⟨_, (.cons (.tmp rfl) .nil), ?_⟩, blks_of (.cons (by first | rfl | (simp [spliceL]; rfl)) .nil)⟩
        rfl
      · have hge : ¬ nc xs p < 128 := by simpa using hc3
        rw [if_neg hge] at h
        have hnn := (nc_some (nc_ne (xs := xs) (p := p) (by omega))).2
        rw [hnn.1] at h hpl
        rw [hnn.1, hnn.2]
        apply WPA.skip
        apply WPA.region
        · apply Trace.pu [] (.move (.plain rfl))
          apply Trace.pu [] (.arith (.plain rfl) (.plain rfl) rfl (fun _ => bd64 (by omega)))
          apply Trace.pu [] (.assign (.plain rfl))
          exact .nil _
        · exact keepOK_of hk hn rfl
        have hi8 : i ≠ 9 := by intro h9; omega
        exact ⟨(i + 1, p + 1, u + (nc xs p % 128).toNat * 128 ^ i), ⟨by show i + 1 ≤ 9; omega, digits_bd hdd hu, by show bnumF xs (10 - (i + 1)) _ _ = _; rw [show 10 - (i + 1) = 9 - i by omega]; exact h, by show p + 1 ≤ _; omega⟩, by show 10 - (i + 1) < 10 - i; omega, St.le_cons rfl (St.le_cons rfl (St.le_cons (iv_eq (by show (i : Int) + 1 = ((i + 1 : Nat) : Int); omega)) (St.le_cons rfl (St.le_nil _))))⟩
  · cases hc1

theorem bval_eq (xs : List Int) (d p : Nat) : bval xs d p = bvalWith xs (match d with | 0 => none | d + 1 => some (bval xs d)) p := by cases d <;> rfl
theorem bvals_succ (g : Nat → Val × Nat × Bool) (n p : Nat) {v : Val} {q : Nat} {b : Bool} (h : g p = (v, q, b)) : bvals g (n + 1) p = bif b then ([v], q, true) else (v :: (bvals g n q).1, (bvals g n q).2.1, (bvals g n q).2.2) := by
  simp only [bvals, h]
/-- (soundpost/soundpostref01.Reader).Value -/
theorem spec34 (xs : List Int) (hx : xs.length ≤ 1000000) (hb : Bytes xs) (d : Nat) (hd16 : d ≤ 16) (p : Nat) (hp : p ≤ xs.length) : FnSpec Try.prog 34 [.loc 0 0, iv .i64 (16 - (d : Int))] [(bk 0, RB xs p false)] ((bval xs d p).1.av) [(bk 0, RB xs (bval xs d p).2.1 (bval xs d p).2.2)] [0] := by
  revert hd16 p
  induction d using Nat.strongRecOn
  rename_i d ih
  intro hd16 p hp
  refine fnSpec_of (rs := [.cell 4 24]) Try.func34 rfl rfl (Nat.le_of_ble_eq_true rfl) (odd_of rfl) fun E hk hn => ?_
  apply WPA.seq
  apply WPA.region
  · apply Trace.alloc 4 [] (.data _) zo24 (cellsAs_data _) rfl
    exact .nil _
  · exact keepOK_of hk hn rfl
  apply WPA.seq
  apply WPA.seq
  apply WPA.region
  · apply Trace.pu [] (.move (.plain rfl))
    apply Trace.cb [] [bk 0] (callArgs0 (.cons (.plain rfl) .nil)) (spec48 xs hx hb p hp) en48 (.cons rfl .nil) rfl rfl
    exact .nil _
  · exact keepOK_of hk hn rfl
  apply WPA.block
  apply WPA.seq
  apply WPA.region
  · apply Trace.pu [] (.cmp (.plain rfl) (.plain rfl) rfl)
    apply Trace.pu [] (.assign (.plain rfl))
    exact .nil _
  · exact keepOK_of hk hn rfl
  refine WPA.cond rfl (fun hc1 => ?_) (fun hc1 => ?_)
  · have h1 : nc xs p = 1 := by simpa using hc1
    have hnn := (nc_some (nc_ne (xs := xs) (p := p) (by omega))).2
    have hp1 : p + 1 ≤ xs.length := by have := np_le (xs := xs) hp; rw [hnn.1] at this; exact this
    obtain ⟨u, q, b, hz⟩ : ∃ u q b, bnum xs (p + 1) = (u, q, b) := ⟨_, _, _, rfl⟩
    have h49 := spec49 xs hx hb (p + 1) hp1
    have hu := bnum_lt hb (p + 1)
    have hq : (bnum xs (p + 1)).2.1 ≤ xs.length := bnumF_le 10 (p + 1) 0 hp1
    rw [hz] at h49 hu hq
    simp only at h49 hu hq
    rw [hnn.1, hnn.2]
    have e : bval xs d p = (.mk 1 (zag u) ⟨#[]⟩ [], q, b) := by rw [bval_eq]; unfold bvalWith; rw [if_pos h1, hz]
    rw [e]
    apply WPA.seq
    apply WPA.region
    · apply Trace.pu [] (.move (.plain rfl))
      apply Trace.cb [] [bk 0] (callArgs0 (.cons (.plain rfl) .nil)) h49 en49 (.cons rfl .nil) rfl rfl
      apply Trace.pu [] (.assign (.plain rfl))
      exact .nil _
    · exact keepOK_of hk hn rfl
    apply WPA.seq
    apply WPA.seq
    apply WPA.region
    · apply Trace.pu [] (.move (.plain rfl))
      apply Trace.pu [] ((Pure.rem (.plain rfl) (.plain rfl) (fun _ => by decide)).to (y := iv .u64 ((u % 2 : Nat) : Int)) (by rw [Int.tmod_eq_emod_of_nonneg (by omega)]; rfl))
      apply Trace.pu [] (.cmp (.plain rfl) (.plain rfl) rfl)
      exact .nil _
    · exact keepOK_of hk hn rfl
    refine WPA.cond rfl (fun hc2 => ?_) (fun hc2 => ?_)
    · have hodd : u % 2 = 1 := by simp at hc2; omega
      have ez : zag u = -((u / 2 : Nat) : Int) - 1 := by unfold zag; rw [if_neg (by omega)]
      rw [ez]
      apply WPA.seq
      apply WPA.region
      · apply Trace.pu [] (.move (.plain rfl))
        apply Trace.pu [] ((Pure.quo (.plain rfl) (.plain rfl) (fun _ => by decide)).to (y := iv .u64 ((u / 2 : Nat) : Int)) (by rw [Int.tdiv_eq_ediv_of_nonneg (by omega), wrap_u64_id (by omega)]; rfl))
        apply Trace.pu [] ((Pure.conv Try.underlying68 Try.underlying3 (.plain rfl)).to (y := iv .i64 ((u / 2 : Nat) : Int)) (by rw [wrap_i64_id (by omega)]))
        apply Trace.pu [] (.neg (.plain rfl) (fun _ => bd64 (by omega)))
        apply Trace.pu [] (.arith (.plain rfl) (.plain rfl) rfl (fun _ => bd64 (by omega)))
        apply Trace.pu [] (.build zo24 pl24 (.cons (.plain rfl) rfl rfl (Nat.le_of_ble_eq_true rfl) (.cons (.plain rfl) rfl rfl (Nat.le_of_ble_eq_true rfl) (.nil _ _))) rfl)
        first | apply Trace.storeD ty24 (.plain rfl) (.plain rfl) rfl rfl (by simp [spliceL]) (by simp [AV.oneB, single, spliceL]) (by simp [spliceL]) (spliceL_all (by simp [spliceL])) | apply Trace.storeD ty24 (.plain rfl) (.plain rfl) rfl rfl (by simp [spliceL]) (by simp [AV.oneB, single, spliceL]) (by simp [spliceL]) rfl | apply Trace.storeDA ty24 (.plain rfl) (.plain rfl) rfl rfl (by simp [spliceL]) (by simp [AV.oneB, single]) (by simp [spliceL]) rfl | apply Trace.storeLoc ty24 (.plain rfl) (.plain rfl) rfl rfl (by simp [spliceL]) (by simp [AV.oneB, single]) (by simp) rfl | apply Trace.storeRow ty24 (.plain rfl) (.plain rfl) rfl rfl rfl rfl (by decide) (by simp [AV.oneB, single]) rfl (by omega)
        exact .nil _
      · exact keepOK_of hk hn rfl
      refine WPA.ghost (Ghost.dataLe (l := 4) rfl (.same (.same (.same (.rows (n := 4) (g := Val.row []) .nil))))) ?_
      apply WPA.ret
      refine ⟨.inr rfl, ⟨_, (.cons (by first | exact .cellN rfl rfl ty24 rfl | exact .cellD rfl rfl ty24 rfl) .nil), ?_⟩, blks_of (.cons (by first | rfl | (simp [spliceL]; rfl)) .nil)⟩
      rfl
    · have hodd : u % 2 = 0 := by simp at hc2; omega
      have ez : zag u = ((u / 2 : Nat) : Int) := by unfold zag; rw [if_pos hodd]
      rw [ez]
      apply WPA.skip
      apply WPA.seq
      apply WPA.region
      · apply Trace.pu [] (.move (.plain rfl))
        apply Trace.pu [] ((Pure.quo (.plain rfl) (.plain rfl) (fun _ => by decide)).to (y := iv .u64 ((u / 2 : Nat) : Int)) (by rw [Int.tdiv_eq_ediv_of_nonneg (by omega), wrap_u64_id (by omega)]; rfl))
        apply Trace.pu [] ((Pure.conv Try.underlying68 Try.underlying3 (.plain rfl)).to (y := iv .i64 ((u / 2 : Nat) : Int)) (by rw [wrap_i64_id (by omega)]))
        apply Trace.pu [] (.build zo24 pl24 (.cons (.plain rfl) rfl rfl (Nat.le_of_ble_eq_true rfl) (.cons (.plain rfl) rfl rfl (Nat.le_of_ble_eq_true rfl) (.nil _ _))) rfl)
        first | apply Trace.storeD ty24 (.plain rfl) (.plain rfl) rfl rfl (by simp [spliceL]) (by simp [AV.oneB, single, spliceL]) (by simp [spliceL]) (spliceL_all (by simp [spliceL])) | apply Trace.storeD ty24 (.plain rfl) (.plain rfl) rfl rfl (by simp [spliceL]) (by simp [AV.oneB, single, spliceL]) (by simp [spliceL]) rfl | apply Trace.storeDA ty24 (.plain rfl) (.plain rfl) rfl rfl (by simp [spliceL]) (by simp [AV.oneB, single]) (by simp [spliceL]) rfl | apply Trace.storeLoc ty24 (.plain rfl) (.plain rfl) rfl rfl (by simp [spliceL]) (by simp [AV.oneB, single]) (by simp) rfl | apply Trace.storeRow ty24 (.plain rfl) (.plain rfl) rfl rfl rfl rfl (by decide) (by simp [AV.oneB, single]) rfl (by omega)
        exact .nil _
      · exact keepOK_of hk hn rfl
      refine WPA.ghost (Ghost.dataLe (l := 4) rfl (.same (.same (.same (.rows (n := 4) (g := Val.row []) .nil))))) ?_
      apply WPA.ret
      refine ⟨.inr rfl, ⟨_, (.cons (by first | exact .cellN rfl rfl ty24 rfl | exact .cellD rfl rfl ty24 rfl) .nil), ?_⟩, blks_of (.cons (by first | rfl | (simp [spliceL]; rfl)) .nil)⟩
      rfl
  · have h1 : nc xs p ≠ 1 := by simpa using hc1
    apply WPA.seq
    apply WPA.region
    · apply Trace.pu [] (.cmp (.plain rfl) (.plain rfl) rfl)
      apply Trace.pu [] (.assign (.plain rfl))
      exact .nil _
    · exact keepOK_of hk hn rfl
    refine WPA.cond rfl (fun hc3 => ?_) (fun hc3 => ?_)
    · have h2 : nc xs p = 2 := by simpa using hc3
      have hnn := (nc_some (nc_ne (xs := xs) (p := p) (by omega))).2
      have hp1 : p + 1 ≤ xs.length := by have := np_le (xs := xs) hp; rw [hnn.1] at this; exact this
      obtain ⟨u, q, b, hz⟩ : ∃ u q b, bnum xs (p + 1) = (u, q, b) := ⟨_, _, _, rfl⟩
      have h49 := spec49 xs hx hb (p + 1) hp1
      have hu := bnum_lt hb (p + 1)
      have hq : (bnum xs (p + 1)).2.1 ≤ xs.length := bnumF_le 10 (p + 1) 0 hp1
      rw [hz] at h49 hu hq
      simp only at h49 hu hq
      rw [hnn.1, hnn.2]
      have e : bval xs d p = if b = true ∨ xs.length - q < u then (Val.none, q, true) else (.mk 2 0 (bytesOf ((xs.drop q).take u)) [], q + u, false) := by rw [bval_eq]; unfold bvalWith; rw [if_neg h1, if_pos h2, hz]
      apply WPA.seq
      apply WPA.region
      · apply Trace.pu [] (.move (.plain rfl))
        apply Trace.cb [] [bk 0] (callArgs0 (.cons (.plain rfl) .nil)) h49 en49 (.cons rfl .nil) rfl rfl
        apply Trace.pu [] (.assign (.plain rfl))
        exact .nil _
      · exact keepOK_of hk hn rfl
      apply WPA.seq
      apply WPA.seq
      apply WPA.draw mixed
      · apply Trace.pu [] (.move (.plain rfl))
        apply Trace.pu [] (.nilCheck (.plain rfl) rfl)
        apply Trace.pu [] (.fieldAddr fl62_2 (.plain rfl) rfl)
        first | apply Trace.pu [_] (.loadLoc1D ty4 (.plain rfl) rfl rfl) | apply Trace.pu [_] (.loadLoc1 ty4 (.plain rfl) rfl rfl) | apply Trace.pu [] (.loadRp1 ty4 (.plain rfl) rfl) | apply Trace.pu [_] (.loadCol1 ty4 (.plain rfl) rfl rfl rfl (fun _ => by omega))
        apply Trace.pu [] (.move (.plain rfl))
        apply Trace.pg [] rfl (.move (.plain rfl))
        apply Trace.pg [] rfl (.move (.plain rfl))
        apply Trace.pg [] rfl (.nilCheck (.gd rfl (fun h => h)) rfl)
        apply Trace.pg [] rfl (.fieldAddr fl62_0 (.gd rfl (fun h => h)) rfl)
        first | apply Trace.pg [_] rfl (.loadLoc1D ty27 (.gd rfl (fun h => h)) rfl rfl) | apply Trace.pg [_] rfl (.loadLoc1 ty27 (.gd rfl (fun h => h)) rfl rfl) | apply Trace.pg [] rfl (.loadRp1 ty27 (.gd rfl (fun h => h)) rfl) | apply Trace.pg [_] rfl (.loadCol1 ty27 (.gd rfl (fun h => h)) rfl rfl rfl (fun _ => by omega))
        apply Trace.pg [] rfl (.len rfl Try.underlying27 (.gd rfl (fun h => h)) rfl)
        apply Trace.pg [] rfl (.move (.plain rfl))
        apply Trace.pg [] rfl (.nilCheck (.gd rfl (fun h => h)) rfl)
        apply Trace.pg [] rfl (.fieldAddr fl62_1 (.gd rfl (fun h => h)) rfl)
        first | apply Trace.pg [_] rfl (.loadLoc1D ty3 (.gd rfl (fun h => h)) rfl rfl) | apply Trace.pg [_] rfl (.loadLoc1 ty3 (.gd rfl (fun h => h)) rfl rfl) | apply Trace.pg [] rfl (.loadRp1 ty3 (.gd rfl (fun h => h)) rfl) | apply Trace.pg [_] rfl (.loadCol1 ty3 (.gd rfl (fun h => h)) rfl rfl rfl (fun _ => by omega))
        apply Trace.pg [] rfl (.arith (.gd rfl (fun h => h)) (.gd rfl (fun h => h)) rfl (fun _ => bd64 (by omega)))
        apply Trace.pg [] rfl ((Pure.conv Try.underlying3 Try.underlying68 (.gd rfl (fun h => h))).to (y := iv .u64 ((xs.length - q : Nat) : Int)) (by rw [wrap_u64_id (by omega)]; exact congrArg (fun z => iv .u64 z) (by omega)))
        apply Trace.pg [] rfl (.cmp (.gd rfl (fun h => h)) (.gd rfl (fun h => h)) rfl)
        apply Trace.pu [] (.pick (.plain rfl) (.plain rfl) (.gd rfl (by simp)))
        exact .nil _
      · rfl
      · exact keepOK_of hk hn rfl
      refine WPA.cond rfl (fun hc4 => ?_) (fun hc4 => ?_)
      · have hbad : b = true ∨ xs.length - q < u := by simp at hc4; omega
        rw [if_pos hbad] at e
        rw [e]
        apply WPA.seq
        apply WPA.region
        · apply Trace.pu [] (.move (.plain rfl))
          apply Trace.pu [] (.nilCheck (.plain rfl) rfl)
          apply Trace.pu [] (.fieldAddr fl62_2 (.plain rfl) rfl)
          first | apply Trace.storeD ty4 (.plain rfl) (.plain rfl) rfl rfl rfl (by simp [AV.oneB, single]) (Nat.le_of_ble_eq_true rfl) rfl | apply Trace.storeDA ty4 (.plain rfl) (.plain rfl) rfl rfl rfl (by simp [AV.oneB, single]) (Nat.le_of_ble_eq_true rfl) rfl | apply Trace.storeLoc ty4 (.plain rfl) (.plain rfl) rfl rfl rfl (by simp [AV.oneB, single]) (Nat.le_of_ble_eq_true rfl) rfl | apply Trace.storeRow ty4 (.plain rfl) (.plain rfl) rfl rfl rfl rfl (by decide) (by simp [AV.oneB, single]) rfl (by omega)
          exact .nil _
        · exact keepOK_of hk hn rfl
        apply WPA.seq
        apply WPA.region
        · apply Trace.pu [] (.build zo24 pl24 (.nil _ _) rfl)
          first | apply Trace.storeD ty24 (.plain rfl) (.plain rfl) rfl rfl (by simp [spliceL]) (by simp [AV.oneB, single, spliceL]) (by simp [spliceL]) (spliceL_all (by simp [spliceL])) | apply Trace.storeD ty24 (.plain rfl) (.plain rfl) rfl rfl (by simp [spliceL]) (by simp [AV.oneB, single, spliceL]) (by simp [spliceL]) rfl | apply Trace.storeDA ty24 (.plain rfl) (.plain rfl) rfl rfl (by simp [spliceL]) (by simp [AV.oneB, single]) (by simp [spliceL]) rfl | apply Trace.storeLoc ty24 (.plain rfl) (.plain rfl) rfl rfl (by simp [spliceL]) (by simp [AV.oneB, single]) (by simp) rfl | apply Trace.storeRow ty24 (.plain rfl) (.plain rfl) rfl rfl rfl rfl (by decide) (by simp [AV.oneB, single]) rfl (by omega)
          exact .nil _
        · exact keepOK_of hk hn rfl
        refine WPA.ghost (Ghost.dataLe (l := 4) rfl (.same (.same (.same (.rows (n := 4) (g := Val.row []) .nil))))) ?_
        apply WPA.ret
        refine ⟨.inr rfl, ⟨_, (.cons (by first | exact .cellN rfl rfl ty24 rfl | exact .cellD rfl rfl ty24 rfl) .nil), ?_⟩, blks_of (.cons (by first | rfl | (simp [spliceL]; rfl)) .nil)⟩
        rfl
      · have hbad : ¬ (b = true ∨ xs.length - q < u) := by simp at hc4 ⊢; omega
        rw [if_neg hbad] at e
        rw [e]
        obtain rfl : b = false := by cases b <;> simp at hbad ⊢
        have hle : u ≤ xs.length - q := by simp at hbad; omega
        apply WPA.skip
        apply WPA.seq
        apply WPA.region
        · apply Trace.pu [] (.move (.plain rfl))
          apply Trace.pu [] (.move (.plain rfl))
          apply Trace.pu [] (.nilCheck (.plain rfl) rfl)
          apply Trace.pu [] (.fieldAddr fl62_1 (.plain rfl) rfl)
          first | apply Trace.pu [_] (.loadLoc1D ty3 (.plain rfl) rfl rfl) | apply Trace.pu [_] (.loadLoc1 ty3 (.plain rfl) rfl rfl) | apply Trace.pu [] (.loadRp1 ty3 (.plain rfl) rfl) | apply Trace.pu [_] (.loadCol1 ty3 (.plain rfl) rfl rfl rfl (fun _ => by omega))
          apply Trace.pu [] (.move (.plain rfl))
          apply Trace.pu [] ((Pure.conv Try.underlying68 Try.underlying3 (.plain rfl)).to (y := iv .i64 (u : Int)) (by rw [wrap_i64_id (by omega)]))
          apply Trace.pu [] ((Pure.arith (.plain rfl) (.plain rfl) rfl (fun _ => bd64 (by omega))).to (y := iv .i64 ((q + u : Nat) : Int)) (congrArg (fun z => iv .i64 z) (by omega)))
          apply Trace.pu [] (.nilCheck (.plain rfl) rfl)
          apply Trace.pu [] (.fieldAddr fl62_1 (.plain rfl) rfl)
          first | apply Trace.storeD ty3 (.plain rfl) (.plain rfl) rfl rfl rfl (by simp [AV.oneB, single]) (Nat.le_of_ble_eq_true rfl) rfl | apply Trace.storeDA ty3 (.plain rfl) (.plain rfl) rfl rfl rfl (by simp [AV.oneB, single]) (Nat.le_of_ble_eq_true rfl) rfl | apply Trace.storeLoc ty3 (.plain rfl) (.plain rfl) rfl rfl rfl (by simp [AV.oneB, single]) (Nat.le_of_ble_eq_true rfl) rfl | apply Trace.storeRow ty3 (.plain rfl) (.plain rfl) rfl rfl rfl rfl (by decide) (by simp [AV.oneB, single]) rfl (by omega)
          exact .nil _
        · exact keepOK_of hk hn rfl
        apply WPA.seq
        apply WPA.draw mixed
        · apply Trace.pu [] (.move (.plain rfl))
          apply Trace.pu [] (.nilCheck (.plain rfl) rfl)
          apply Trace.pu [] (.fieldAddr fl62_0 (.plain rfl) rfl)
          first | apply Trace.pu [_] (.loadLoc1D ty27 (.plain rfl) rfl rfl) | apply Trace.pu [_] (.loadLoc1 ty27 (.plain rfl) rfl rfl) | apply Trace.pu [] (.loadRp1 ty27 (.plain rfl) rfl) | apply Trace.pu [_] (.loadCol1 ty27 (.plain rfl) rfl rfl rfl (fun _ => by omega))
          apply Trace.pu [] (.move (.plain rfl))
          apply Trace.pu [] (.nilCheck (.plain rfl) rfl)
          apply Trace.pu [] (.fieldAddr fl62_1 (.plain rfl) rfl)
          first | apply Trace.pu [_] (.loadLoc1D ty3 (.plain rfl) rfl rfl) | apply Trace.pu [_] (.loadLoc1 ty3 (.plain rfl) rfl rfl) | apply Trace.pu [] (.loadRp1 ty3 (.plain rfl) rfl) | apply Trace.pu [_] (.loadCol1 ty3 (.plain rfl) rfl rfl rfl (fun _ => by omega))
          apply Trace.pu [] (.move (.plain rfl))
          apply Trace.pu [] ((Pure.conv Try.underlying68 Try.underlying3 (.plain rfl)).to (y := iv .i64 (u : Int)) (by rw [wrap_i64_id (by omega)]))
          apply Trace.pu [] ((Pure.arith (.plain rfl) (.plain rfl) rfl (fun _ => bd64 (by omega))).to (y := iv .i64 (q : Int)) (congrArg (fun z => iv .i64 z) (by omega)))
          apply Trace.pu [] (.move (.plain rfl))
          apply Trace.pu [] (.nilCheck (.plain rfl) rfl)
          apply Trace.pu [] (.fieldAddr fl62_1 (.plain rfl) rfl)
          first | apply Trace.pu [_] (.loadLoc1D ty3 (.plain rfl) rfl rfl) | apply Trace.pu [_] (.loadLoc1 ty3 (.plain rfl) rfl rfl) | apply Trace.pu [] (.loadRp1 ty3 (.plain rfl) rfl) | apply Trace.pu [_] (.loadCol1 ty3 (.plain rfl) rfl rfl rfl (fun _ => by omega))
          first | apply Trace.pu [] (.cutRows so27 (.plain rfl) (.to _ (.plain rfl) (fun _ => by omega)) (.to _ (.plain rfl) (fun _ => by omega)) (fun _ => ⟨by omega, by omega⟩)) | apply Trace.pu [] (.cutOwn so27 (.plain rfl) (.to _ (.plain rfl) (fun _ => by omega)) (.to _ (.plain rfl) (fun _ => by omega)) (fun _ => ⟨by omega, by omega⟩)) | apply Trace.pu [] (.cutSl so27 (.plain rfl) (.to _ (.plain rfl) (fun _ => by omega)) (.to _ (.plain rfl) (fun _ => by omega)) (fun _ => ⟨by omega, by omega⟩))
          apply Trace.pu [] (.strRows (xs := (xs.drop q).take u) bs27 Try.underlying9 (.plain rfl) (fun _ => by simp; omega) (fun _ i hi => (by have hi' : i < u := (by omega); simp [List.getD, hi'])))
          apply Trace.pu [] (.build zo24 pl24 (.cons (.plain rfl) rfl rfl (Nat.le_of_ble_eq_true rfl) (.cons (.plain rfl) rfl rfl (Nat.le_of_ble_eq_true rfl) (.nil _ _))) rfl)
          first | apply Trace.storeD ty24 (.plain rfl) (.plain rfl) rfl rfl (by simp [spliceL]) (by simp [AV.oneB, single, spliceL]) (by simp [spliceL]) (spliceL_all (by simp [spliceL])) | apply Trace.storeD ty24 (.plain rfl) (.plain rfl) rfl rfl (by simp [spliceL]) (by simp [AV.oneB, single, spliceL]) (by simp [spliceL]) rfl | apply Trace.storeDA ty24 (.plain rfl) (.plain rfl) rfl rfl (by simp [spliceL]) (by simp [AV.oneB, single]) (by simp [spliceL]) rfl | apply Trace.storeLoc ty24 (.plain rfl) (.plain rfl) rfl rfl (by simp [spliceL]) (by simp [AV.oneB, single]) (by simp) rfl | apply Trace.storeRow ty24 (.plain rfl) (.plain rfl) rfl rfl rfl rfl (by decide) (by simp [AV.oneB, single]) rfl (by omega)
          exact .nil _
        · rfl
        · exact keepOK_of hk hn rfl
        refine WPA.ghost (Ghost.dataLe (l := 4) rfl (.same (.same (.same (.rows (n := 4) (g := Val.row []) .nil))))) ?_
        apply WPA.ret
        refine ⟨.inr rfl, ⟨_, (.cons (by first | exact .cellN rfl rfl ty24 rfl | exact .cellD rfl rfl ty24 rfl) .nil), ?_⟩, blks_of (.cons (by first | rfl | (simp [spliceL]; rfl)) .nil)⟩
        rfl
    · have h2 : nc xs p ≠ 2 := by simpa using hc3
      apply WPA.seq
      apply WPA.region
      · apply Trace.pu [] (.cmp (.plain rfl) (.plain rfl) rfl)
        apply Trace.pu [] (.assign (.plain rfl))
        exact .nil _
      · exact keepOK_of hk hn rfl
      refine WPA.cond rfl (fun hc5 => ?_) (fun hc5 => ?_)
      · have h3 : nc xs p = 3 := by simpa using hc5
        have hnn := (nc_some (nc_ne (xs := xs) (p := p) (by omega))).2
        have hp1 : p + 1 ≤ xs.length := by have := np_le (xs := xs) hp; rw [hnn.1] at this; exact this
        obtain ⟨u, q, b, hz⟩ : ∃ u q b, bnum xs (p + 1) = (u, q, b) := ⟨_, _, _, rfl⟩
        have h49 := spec49 xs hx hb (p + 1) hp1
        have hu := bnum_lt hb (p + 1)
        have hq : (bnum xs (p + 1)).2.1 ≤ xs.length := bnumF_le 10 (p + 1) 0 hp1
        rw [hz] at h49 hu hq
        simp only at h49 hu hq
        rw [hnn.1, hnn.2]
        apply WPA.seq
        apply WPA.region
        · apply Trace.pu [] (.move (.plain rfl))
          apply Trace.cb [] [bk 0] (callArgs0 (.cons (.plain rfl) .nil)) h49 en49 (.cons rfl .nil) rfl rfl
          apply Trace.pu [] (.assign (.plain rfl))
          exact .nil _
        · exact keepOK_of hk hn rfl
        apply WPA.seq
        apply WPA.seq
        apply WPA.draw mixed
        · apply Trace.pu [] (.move (.plain rfl))
          apply Trace.pu [] (.nilCheck (.plain rfl) rfl)
          apply Trace.pu [] (.fieldAddr fl62_2 (.plain rfl) rfl)
          first | apply Trace.pu [_] (.loadLoc1D ty4 (.plain rfl) rfl rfl) | apply Trace.pu [_] (.loadLoc1 ty4 (.plain rfl) rfl rfl) | apply Trace.pu [] (.loadRp1 ty4 (.plain rfl) rfl) | apply Trace.pu [_] (.loadCol1 ty4 (.plain rfl) rfl rfl rfl (fun _ => by omega))
          apply Trace.pu [] (.move (.plain rfl))
          apply Trace.pg [] rfl (.move (.plain rfl))
          apply Trace.pg [] rfl (.move (.plain rfl))
          apply Trace.pg [] rfl (.nilCheck (.gd rfl (fun h => h)) rfl)
          apply Trace.pg [] rfl (.fieldAddr fl62_0 (.gd rfl (fun h => h)) rfl)
          first | apply Trace.pg [_] rfl (.loadLoc1D ty27 (.gd rfl (fun h => h)) rfl rfl) | apply Trace.pg [_] rfl (.loadLoc1 ty27 (.gd rfl (fun h => h)) rfl rfl) | apply Trace.pg [] rfl (.loadRp1 ty27 (.gd rfl (fun h => h)) rfl) | apply Trace.pg [_] rfl (.loadCol1 ty27 (.gd rfl (fun h => h)) rfl rfl rfl (fun _ => by omega))
          apply Trace.pg [] rfl (.len rfl Try.underlying27 (.gd rfl (fun h => h)) rfl)
          apply Trace.pg [] rfl (.move (.plain rfl))
          apply Trace.pg [] rfl (.nilCheck (.gd rfl (fun h => h)) rfl)
          apply Trace.pg [] rfl (.fieldAddr fl62_1 (.gd rfl (fun h => h)) rfl)
          first | apply Trace.pg [_] rfl (.loadLoc1D ty3 (.gd rfl (fun h => h)) rfl rfl) | apply Trace.pg [_] rfl (.loadLoc1 ty3 (.gd rfl (fun h => h)) rfl rfl) | apply Trace.pg [] rfl (.loadRp1 ty3 (.gd rfl (fun h => h)) rfl) | apply Trace.pg [_] rfl (.loadCol1 ty3 (.gd rfl (fun h => h)) rfl rfl rfl (fun _ => by omega))
          apply Trace.pg [] rfl (.arith (.gd rfl (fun h => h)) (.gd rfl (fun h => h)) rfl (fun _ => bd64 (by omega)))
          apply Trace.pg [] rfl ((Pure.conv Try.underlying3 Try.underlying68 (.gd rfl (fun h => h))).to (y := iv .u64 ((xs.length - q : Nat) : Int)) (by rw [wrap_u64_id (by omega)]; exact congrArg (fun z => iv .u64 z) (by omega)))
          apply Trace.pg [] rfl (.cmp (.gd rfl (fun h => h)) (.gd rfl (fun h => h)) rfl)
          apply Trace.pu [] (.pick (.plain rfl) (.plain rfl) (.gd rfl (by simp)))
          apply Trace.pu [] (.move (.plain rfl))
          apply Trace.pg [] rfl (.move (.plain rfl))
          apply Trace.pg [] rfl (.cmp (.gd rfl (fun h => h)) (.plain rfl) rfl)
          apply Trace.pu [] (.pick (.plain rfl) (.plain rfl) (.gd rfl (by simp)))
          exact .nil _
        · rfl
        · exact keepOK_of hk hn rfl
        refine WPA.cond rfl (fun hc6 => ?_) (fun hc6 => ?_)
        · have hbad : (b = true ∨ xs.length - q < u) ∨ d = 0 := by
            cases b
            · simp at hc6 ⊢; omega
            · simp
          have e : bval xs d p = (Val.none, q, true) := by
            rw [bval_eq]; unfold bvalWith; rw [if_neg h1, if_neg h2, if_pos h3, hz]
            simp only
            split
            · rfl
            · rename_i hn
              rcases hbad with hbad | rfl
              · exact absurd hbad hn
              · rfl
          rw [e]
          apply WPA.seq
          apply WPA.region
          · apply Trace.pu [] (.move (.plain rfl))
            apply Trace.pu [] (.nilCheck (.plain rfl) rfl)
            apply Trace.pu [] (.fieldAddr fl62_2 (.plain rfl) rfl)
            first | apply Trace.storeD ty4 (.plain rfl) (.plain rfl) rfl rfl rfl (by simp [AV.oneB, single]) (Nat.le_of_ble_eq_true rfl) rfl | apply Trace.storeDA ty4 (.plain rfl) (.plain rfl) rfl rfl rfl (by simp [AV.oneB, single]) (Nat.le_of_ble_eq_true rfl) rfl | apply Trace.storeLoc ty4 (.plain rfl) (.plain rfl) rfl rfl rfl (by simp [AV.oneB, single]) (Nat.le_of_ble_eq_true rfl) rfl | apply Trace.storeRow ty4 (.plain rfl) (.plain rfl) rfl rfl rfl rfl (by decide) (by simp [AV.oneB, single]) rfl (by omega)
            exact .nil _
          · exact keepOK_of hk hn rfl
          apply WPA.seq
          apply WPA.region
          · apply Trace.pu [] (.build zo24 pl24 (.nil _ _) rfl)
            first | apply Trace.storeD ty24 (.plain rfl) (.plain rfl) rfl rfl (by simp [spliceL]) (by simp [AV.oneB, single, spliceL]) (by simp [spliceL]) (spliceL_all (by simp [spliceL])) | apply Trace.storeD ty24 (.plain rfl) (.plain rfl) rfl rfl (by simp [spliceL]) (by simp [AV.oneB, single, spliceL]) (by simp [spliceL]) rfl | apply Trace.storeDA ty24 (.plain rfl) (.plain rfl) rfl rfl (by simp [spliceL]) (by simp [AV.oneB, single]) (by simp [spliceL]) rfl | apply Trace.storeLoc ty24 (.plain rfl) (.plain rfl) rfl rfl (by simp [spliceL]) (by simp [AV.oneB, single]) (by simp) rfl | apply Trace.storeRow ty24 (.plain rfl) (.plain rfl) rfl rfl rfl rfl (by decide) (by simp [AV.oneB, single]) rfl (by omega)
            exact .nil _
          · exact keepOK_of hk hn rfl
          refine WPA.ghost (Ghost.dataLe (l := 4) rfl (.same (.same (.same (.rows (n := 4) (g := Val.row []) .nil))))) ?_
          apply WPA.ret
          refine ⟨.inr rfl, ⟨_, (.cons (by first | exact .cellN rfl rfl ty24 rfl | exact .cellD rfl rfl ty24 rfl) .nil), ?_⟩, blks_of (.cons (by first | rfl | (simp [spliceL]; rfl)) .nil)⟩
          rfl
        · have hbad : ¬ (b = true ∨ xs.length - q < u) ∧ d ≠ 0 := by
            cases b
            · simp at hc6 ⊢; omega
            · simp at hc6
          obtain ⟨hbad, hd0⟩ := hbad
          obtain ⟨d, rfl⟩ : ∃ d', d = d' + 1 := ⟨d - 1, by omega⟩
          obtain ⟨l, r, bb, hl⟩ : ∃ l r bb, bvals (bval xs d) u q = (l, r, bb) := ⟨_, _, _, rfl⟩
          have e : bval xs (d + 1) p = (.mk 3 0 ⟨#[]⟩ l, r, bb) := by
            rw [bval_eq]; unfold bvalWith; rw [if_neg h1, if_neg h2, if_pos h3, hz]
            simp only
            rw [if_neg hbad, hl]
          rw [e]
          obtain rfl : b = false := by cases b <;> simp at hbad ⊢
          have hle : u ≤ xs.length - q := by simp at hbad; omega
          apply WPA.skip
          apply WPA.seq
          apply WPA.region
          · apply Trace.pu [] (.build zo24 pl24 (.cons (.plain rfl) rfl rfl (Nat.le_of_ble_eq_true rfl) (.nil _ _)) rfl)
            apply Trace.alloc 8 [] (.data _) zo24 (cellsAs_data _) rfl
            first | apply Trace.storeD ty24 (.plain rfl) (.plain rfl) rfl rfl (by simp [spliceL]) (by simp [AV.oneB, single, spliceL]) (by simp [spliceL]) (spliceL_all (by simp [spliceL])) | apply Trace.storeD ty24 (.plain rfl) (.plain rfl) rfl rfl (by simp [spliceL]) (by simp [AV.oneB, single, spliceL]) (by simp [spliceL]) rfl | apply Trace.storeDA ty24 (.plain rfl) (.plain rfl) rfl rfl (by simp [spliceL]) (by simp [AV.oneB, single]) (by simp [spliceL]) rfl | apply Trace.storeLoc ty24 (.plain rfl) (.plain rfl) rfl rfl (by simp [spliceL]) (by simp [AV.oneB, single]) (by simp) rfl | apply Trace.storeRow ty24 (.plain rfl) (.plain rfl) rfl rfl rfl rfl (by decide) (by simp [AV.oneB, single]) rfl (by omega)
            exact .nil _
          · exact keepOK_of hk hn rfl
          apply WPA.seq
          apply WPA.seq
          apply WPA.region
          · apply Trace.pu [] (.assign (.plain rfl))
            exact .nil _
          · exact keepOK_of hk hn rfl
          apply WPA.block
          refine WPA.ghost (Ghost.dataCells (l := 8) rfl rfl) ?_
          refine WPA.ghost (Ghost.cellNil (lb := 8) (j := 3) (l := 5) (cols := valCols []) (n := 4) rfl rfl rfl rfl (by rw [hk]; decide) rfl (valCols_len []) rfl) ?_
          refine WPA.loop (σ := List Val × Nat × Bool) (fun i => [(sl 0, .av (.loc 0 0)), (sl 1, .av (iv .i64 (16 - ((d + 1 : Nat) : Int)))), (sl 4, .av (.loc 4 0)), (sl 7, .av (iv .u64 u)), (sl 8, .av (.loc 8 0)), (sl 9, .av (iv .u64 i.1.length)), (bk 0, RB xs i.2.1 i.2.2), (bk 4, .blk (.data [.v (.int .i64 0), .v (.int .i64 0), .v (.string ⟨#[]⟩), .v (.slice none 0 0)])), (bk 8, .blk (.cells [iv .i64 3, iv .i64 0, sv ⟨#[]⟩, .own 5 i.1.length])), (bk 5, .blk (.app 4 i.1.length (valCols i.1)))]) (fun i => i.1.length ≤ u ∧ i.2.1 ≤ xs.length ∧ ((i.2.2 = true ∧ i.1 = l ∧ i.2.1 = r ∧ bb = true) ∨ (i.2.2 = false ∧ ∃ t, bvals (bval xs d) (u - i.1.length) i.2.1 = (t, r, bb) ∧ l = i.1 ++ t))) (fun i => u - i.1.length) ([], q, false)
            (St.le_cons rfl (St.le_cons rfl (St.le_cons rfl (St.le_cons rfl (St.le_cons rfl (St.le_cons rfl (St.le_cons rfl (St.le_cons rfl (St.le_cons rfl (St.le_cons rfl (St.le_nil _))))))))))) ⟨by show 0 ≤ u; omega, hq, .inr ⟨rfl, l, hl, rfl⟩⟩ fun i hi => ?_
          clear hl hq
          obtain ⟨acc, j, bad⟩ := i
          obtain ⟨hac, hj, hi⟩ := hi
          simp only at hac hj hi
          dsimp only
          apply WPA.seq
          apply WPA.seq
          apply WPA.region
          · apply Trace.pu [] (.move (.plain rfl))
            apply Trace.pu [] (.move (.plain rfl))
            apply Trace.pu [] (.cmp (.plain rfl) (.plain rfl) rfl)
            apply Trace.pu [] (.move (.plain rfl))
            apply Trace.pg [] rfl (.move (.plain rfl))
            apply Trace.pg [] rfl (.nilCheck (.gd rfl (fun h => h)) rfl)
            apply Trace.pg [] rfl (.fieldAddr fl62_2 (.gd rfl (fun h => h)) rfl)
            first | apply Trace.pg [_] rfl (.loadLoc1D ty4 (.gd rfl (fun h => h)) rfl rfl) | apply Trace.pg [_] rfl (.loadLoc1 ty4 (.gd rfl (fun h => h)) rfl rfl) | apply Trace.pg [] rfl (.loadRp1 ty4 (.gd rfl (fun h => h)) rfl) | apply Trace.pg [_] rfl (.loadCol1 ty4 (.gd rfl (fun h => h)) rfl rfl rfl (fun _ => by omega))
            apply Trace.pg [] rfl (.not (.gd rfl (fun h => h)))
            apply Trace.pu [] (.pick (.plain rfl) (.gd rfl (by simp)) (.plain rfl))
            exact .nil _
          · exact keepOK_of hk hn rfl
          refine WPA.cond rfl (fun hc7 => ?_) (fun hc7 => ?_)
          · have hlt : acc.length < u ∧ bad = false := by
              simp at hc7
              cases bad
              · exact ⟨by simpa using hc7, rfl⟩
              · simp at hc7
            obtain ⟨hlt, rfl⟩ := hlt
            obtain ⟨t, hrv, hl⟩ : ∃ t, bvals (bval xs d) (u - acc.length) j = (t, r, bb) ∧ l = acc ++ t := by
              rcases hi with ⟨h, _⟩ | ⟨_, h⟩
              · cases h
              · exact h
            rw [show u - acc.length = (u - acc.length - 1) + 1 by omega] at hrv
            obtain ⟨y, r', b', hval⟩ : ∃ y r' b', bval xs d j = (y, r', b') := ⟨_, _, _, rfl⟩
            rw [bvals_succ _ _ _ hval] at hrv
            have hrd := bval_le d j hj
            have h34 := ih d (by omega) (by omega) j hj
            rw [hval] at hrd h34
            simp only at hrd h34
            rcases y with ⟨k', n', s', m'⟩
            apply WPA.skip
            apply WPA.seq
            apply WPA.block
            apply WPA.draw mixed
            · apply Trace.pu [] (.fieldAddr fl24_3 (.plain rfl) rfl)
              first | apply Trace.pu [_] (.loadLoc1D ty22 (.plain rfl) rfl rfl) | apply Trace.pu [_] (.loadLoc1 ty22 (.plain rfl) rfl rfl) | apply Trace.pu [] (.loadRp1 ty22 (.plain rfl) rfl) | apply Trace.pu [_] (.loadCol1 ty22 (.plain rfl) rfl rfl rfl (fun _ => by omega))
              apply Trace.pu [] (.move (.plain rfl))
              apply Trace.pu [] (.move (.plain rfl))
              apply Trace.pu [] ((Pure.arith (.plain rfl) (.plain rfl) rfl (fun _ => bd64 (by omega))).to (y := iv .i64 (16 - (d : Int))) (congrArg (fun z => iv .i64 z) (show (16 - ((d + 1 : Nat) : Int) + 1) = 16 - (d : Int) by omega)))
              apply Trace.cb [] [bk 0] (callArgs0 (.cons (.plain rfl) (.cons (.plain rfl) .nil))) h34 en34 (.cons rfl .nil) rfl rfl
              apply Trace.buildSlice 45 [] so22 zo24 rfl (by decide) (by decide) (.cons (.plain rfl) rfl rfl (Nat.le_of_ble_eq_true rfl) (.nil _ _)) rfl rfl rfl
              apply Trace.append 46 [bk 5] ap22 kd22 (by decide) (.own (.plain rfl) rfl) (.own (.plain rfl) rfl) (Col.ones rfl) (labs_ok rfl) (by omega) (by omega) (valCols_snoc acc k' n' s' m') rfl
              apply Trace.pu [] (.fieldAddr fl24_3 (.plain rfl) rfl)
              apply Trace.storeLoc ty22 (.plain rfl) (.plain rfl) rfl rfl rfl (by simp [AV.oneB, single]) (Nat.le_of_ble_eq_true rfl) rfl
              exact .nil _
            · rfl
            · exact keepOK_of hk hn rfl
            refine WPA.ghost (Ghost.swap 5 46 (by rw [hk]; decide) (by rw [hk]; decide) rfl) ?_
            apply WPA.region
            · apply Trace.pu [] (.move (.plain rfl))
              apply Trace.pu [] ((Pure.arithW (.plain rfl) (.plain rfl) rfl).to (y := iv .u64 ((acc.length + 1 : Nat) : Int)) (by rw [wrap_u64_id (by omega)]; rfl))
              apply Trace.pu [] (.assign (.plain rfl))
              exact .nil _
            · exact keepOK_of hk hn rfl
            exact ⟨(acc ++ [.mk k' n' s' m'], r', b'), ⟨by show (acc ++ _).length ≤ u; simp; omega, hrd, by
                cases b' with
                | true =>
                  simp only [cond_true, Prod.mk.injEq] at hrv
                  obtain ⟨rfl, rfl, rfl⟩ := hrv
                  exact .inl ⟨rfl, hl.symm, rfl, rfl⟩
                | false =>
                  simp only [cond_false, Prod.mk.injEq] at hrv
                  refine .inr ⟨rfl, (bvals (bval xs d) (u - acc.length - 1) r').1, ?_, by rw [hl, ← hrv.1]; simp⟩
                  show bvals _ (u - (acc ++ _).length) _ = _
                  rw [show u - (acc ++ [Val.mk k' n' s' m']).length = u - acc.length - 1 by simp; omega, ← hrv.2.1, ← hrv.2.2]⟩, by show u - (acc ++ _).length < u - acc.length; simp; omega,
              St.le_cons rfl (St.le_cons rfl (St.le_cons rfl (St.le_cons rfl (St.le_cons rfl (St.le_cons (iv_eq (by show ((acc.length + 1 : Nat) : Int) = (((acc ++ _).length : Nat) : Int); simp)) (St.le_cons rfl (St.le_cons rfl (St.le_cons (by simp; rfl) (St.le_cons (by simp; rfl) (St.le_nil _))))))))))⟩
          · have hfin : acc = l ∧ j = r ∧ bad = bb := by
              rcases hi with ⟨rfl, h, h', rfl⟩ | ⟨rfl, t, h, h'⟩
              · exact ⟨h, h', rfl⟩
              · have hil : u - acc.length = 0 := by simp at hc7; omega
                rw [hil] at h
                simp only [bvals, Prod.mk.injEq] at h
                obtain ⟨rfl, rfl, rfl⟩ := h
                exact ⟨by simpa using h'.symm, rfl, rfl⟩
            obtain ⟨rfl, rfl, rfl⟩ := hfin
            refine WPA.ghost (Ghost.cellFreeze (lb := 8) (j := 3) (l := 5) (g := Val.row acc) rfl rfl rfl rfl (fun i hi => valCols_row acc i hi) rfl) ?_
            apply WPA.exit
            apply WPA.seq
            apply WPA.region
            · first | apply Trace.pu [_] (.loadAllD ty24 (.plain rfl) rfl (by simp [spliceL])) | apply Trace.pu [_] (.loadLocD ty24 (.plain rfl) rfl (fun _ => by simp [spliceL])) | apply Trace.pu [_] (.loadLoc ty24 (.plain rfl) rfl (fun _ => Nat.le_of_ble_eq_true rfl)) | apply Trace.pu [] (.loadRp ty24 (.plain rfl) (fun _ => by decide)) | apply Trace.pu [_] (.loadCol ty24 (.plain rfl) rfl rfl (fun _ => by decide) (fun _ => by omega)) | apply Trace.pu [_] (.loadArr ty24 (.plain rfl) rfl)
              first | apply Trace.storeD ty24 (.plain rfl) (.plain rfl) rfl rfl (by simp [spliceL]) (by simp [AV.oneB, single, spliceL]) (by simp [spliceL]) (spliceL_all (by simp [spliceL])) | apply Trace.storeD ty24 (.plain rfl) (.plain rfl) rfl rfl (by simp [spliceL]) (by simp [AV.oneB, single, spliceL]) (by simp [spliceL]) rfl | apply Trace.storeDA ty24 (.plain rfl) (.plain rfl) rfl rfl (by simp [spliceL]) (by simp [AV.oneB, single]) (by simp [spliceL]) rfl | apply Trace.storeLoc ty24 (.plain rfl) (.plain rfl) rfl rfl (by simp [spliceL]) (by simp [AV.oneB, single]) (by simp) rfl | apply Trace.storeRow ty24 (.plain rfl) (.plain rfl) rfl rfl rfl rfl (by decide) (by simp [AV.oneB, single]) rfl (by omega)
              exact .nil _
            · exact keepOK_of hk hn rfl
            apply WPA.ret
            refine ⟨.inr rfl, ⟨_, (.cons (by first | exact .cellN rfl rfl ty24 rfl | exact .cellD rfl rfl ty24 rfl) .nil), ?_⟩, blks_of (.cons (by first | rfl | (simp [spliceL]; rfl)) .nil)⟩
            rfl
      · have h3 : nc xs p ≠ 3 := by simpa using hc5
        have e : bval xs d p = (Val.none, np xs p, true) := by rw [bval_eq]; unfold bvalWith; rw [if_neg h1, if_neg h2, if_neg h3]
        rw [e]
        apply WPA.skip
        apply WPA.seq
        apply WPA.region
        · apply Trace.pu [] (.move (.plain rfl))
          apply Trace.pu [] (.nilCheck (.plain rfl) rfl)
          apply Trace.pu [] (.fieldAddr fl62_2 (.plain rfl) rfl)
          first | apply Trace.storeD ty4 (.plain rfl) (.plain rfl) rfl rfl rfl (by simp [AV.oneB, single]) (Nat.le_of_ble_eq_true rfl) rfl | apply Trace.storeDA ty4 (.plain rfl) (.plain rfl) rfl rfl rfl (by simp [AV.oneB, single]) (Nat.le_of_ble_eq_true rfl) rfl | apply Trace.storeLoc ty4 (.plain rfl) (.plain rfl) rfl rfl rfl (by simp [AV.oneB, single]) (Nat.le_of_ble_eq_true rfl) rfl | apply Trace.storeRow ty4 (.plain rfl) (.plain rfl) rfl rfl rfl rfl (by decide) (by simp [AV.oneB, single]) rfl (by omega)
          exact .nil _
        · exact keepOK_of hk hn rfl
        apply WPA.seq
        apply WPA.region
        · apply Trace.pu [] (.build zo24 pl24 (.nil _ _) rfl)
          first | apply Trace.storeD ty24 (.plain rfl) (.plain rfl) rfl rfl (by simp [spliceL]) (by simp [AV.oneB, single, spliceL]) (by simp [spliceL]) (spliceL_all (by simp [spliceL])) | apply Trace.storeD ty24 (.plain rfl) (.plain rfl) rfl rfl (by simp [spliceL]) (by simp [AV.oneB, single, spliceL]) (by simp [spliceL]) rfl | apply Trace.storeDA ty24 (.plain rfl) (.plain rfl) rfl rfl (by simp [spliceL]) (by simp [AV.oneB, single]) (by simp [spliceL]) rfl | apply Trace.storeLoc ty24 (.plain rfl) (.plain rfl) rfl rfl (by simp [spliceL]) (by simp [AV.oneB, single]) (by simp) rfl | apply Trace.storeRow ty24 (.plain rfl) (.plain rfl) rfl rfl rfl rfl (by decide) (by simp [AV.oneB, single]) rfl (by omega)
          exact .nil _
        · exact keepOK_of hk hn rfl
        refine WPA.ghost (Ghost.dataLe (l := 4) rfl (.same (.same (.same (.rows (n := 4) (g := Val.row []) .nil))))) ?_
        apply WPA.ret
        refine ⟨.inr rfl, ⟨_, (.cons (by first | exact .cellN rfl rfl ty24 rfl | exact .cellD rfl rfl ty24 rfl) .nil), ?_⟩, blks_of (.cons (by first | rfl | (simp [spliceL]; rfl)) .nil)⟩
        rfl

end Go.Proofs.Ytlccnbnnlfbfjaa

