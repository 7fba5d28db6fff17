/- The reader of codec. -/
import Derived.Test.YtlccnbnnlfbfjaaTypes
import Derived.Test.YtlccnbnnlfbfjaaCodecRef
namespace Go.Proofs.Ytlccnbnnlfbfjaa
open Go
set_option linter.unusedVariables false
set_option linter.unusedSimpArgs false
set_option maxRecDepth 10000

/-- The panic with the error of Decode. -/
abbrev badCode : List PanicEntry := [{ v := .iface 28 (.int .i64 10), recovered := false }]
/-- What is left of the input: 'len' bytes from 'at' on. -/
def restD (xs : List Int) (at_ len : Nat) : D := .rows 1 len fun i => [.v (.int .u8 (xs.getD (at_ + i) 0))]
/-- The reader's block. -/
abbrev readB (xs : List Int) (at_ len : Nat) : Cont := .blk (.data [restD xs at_ len])
/-- (soundpost/codec.reader).want -/
theorem spec33 (l : Nat) : FnSpec Try.prog 33 [.loc l 0, bv true] [] (.tup []) [] [] := by
  refine fnSpec_of (rs := []) Try.func33 rfl rfl (Nat.le_of_ble_eq_true rfl) (by simp [St.get]) fun E hk hn => ?_
  apply WPA.seq
  apply WPA.region
  · apply Trace.pu [] (.move (.plain rfl))
    apply Trace.pu [] (.not (.plain rfl))
    exact .nil _
  · exact keepOK_of hk hn rfl
  refine WPA.cond rfl (fun hc1 => ?_) (fun hc1 => ?_)
  · simp at hc1
  · apply WPA.skip
    refine ⟨.inl rfl, ⟨_, (.nil), ?_⟩, by simp [St.get]⟩
    rfl
/-- (soundpost/codec.reader).want: a panic -/
theorem panic33 (l : Nat) : PSpec Try.prog 33 [.loc l 0, bv false] [] badCode := by
  refine pSpec_of Try.func33 rfl (Nat.le_of_ble_eq_true rfl) (by simp [St.get]) fun E hk hn => ?_
  apply WPA.seq
  apply WPA.region
  · apply Trace.pu [] (.move (.plain rfl))
    apply Trace.pu [] (.not (.plain rfl))
    exact .nil _
  · exact keepOK_of hk hn rfl
  refine WPA.cond rfl (fun hc1 => ?_) (fun hc1 => ?_)
  · apply WPA.regionX 6
    · apply Trace.pu [] (.makeIface Try.underlying28 (by intro m h; cases h) (.plain rfl))
      apply Trace.panicOp 6 (.plain rfl) rfl
      exact .nil _
    · exact keepOK_of hk hn rfl
    · rfl
  · simp at hc1
/-- (soundpost/codec.reader).take -/
theorem spec44 (xs : List Int) (at_ m n : Nat) (hm : m ≤ 140737488355328) (hn : n ≤ 140737488355328) (h : n ≤ m) : FnSpec Try.prog 44 [.loc 0 0, iv .i64 n] [(bk 0, readB xs at_ m)] (.d (restD xs at_ n)) [(bk 0, readB xs (at_ + n) (m - n))] [0] := by
  refine fnSpec_of (rs := [.tmp 4]) Try.func44 rfl rfl (Nat.le_of_ble_eq_true rfl) (odd_of rfl) fun E hk hn => ?_
  apply WPA.seq
  apply WPA.region
  · apply Trace.pu [] (.assign (.plain rfl))
    exact .nil _
  · exact keepOK_of hk hn rfl
  apply WPA.seq
  apply WPA.region
  · apply Trace.pu [] (.move (.plain rfl))
    apply Trace.pu [] (.move (.plain rfl))
    apply Trace.pu [] (.move (.plain rfl))
    apply Trace.pu [] (.nilCheck (.plain rfl) rfl)
    apply Trace.pu [] (.fieldAddr fl58_0 (.plain rfl) rfl)
    first | apply Trace.pu [_] (.loadLoc1D ty27 (.plain rfl) rfl rfl) | apply Trace.pu [_] (.loadLoc1 ty27 (.plain rfl) rfl rfl) | apply Trace.pu [] (.loadRp1 ty27 (.plain rfl) rfl) | apply Trace.pu [_] (.loadCol1 ty27 (.plain rfl) rfl rfl rfl (fun _ => by omega))
    apply Trace.pu [] (.len rfl Try.underlying27 (.plain rfl) rfl)
    apply Trace.pu [] ((Pure.cmp (.plain rfl) (.plain rfl) rfl).to (y := bv true) (by simp [h]))
    apply Trace.ct (ds := []) (callArgs0 (.cons (.plain rfl) (.cons (.plain rfl) .nil))) (spec33 0) en33
    exact .nil _
  · exact keepOK_of hk hn rfl
  apply WPA.seq
  apply WPA.region
  · apply Trace.pu [] (.move (.plain rfl))
    apply Trace.pu [] (.nilCheck (.plain rfl) rfl)
    apply Trace.pu [] (.fieldAddr fl58_0 (.plain rfl) rfl)
    first | apply Trace.pu [_] (.loadLoc1D ty27 (.plain rfl) rfl rfl) | apply Trace.pu [_] (.loadLoc1 ty27 (.plain rfl) rfl rfl) | apply Trace.pu [] (.loadRp1 ty27 (.plain rfl) rfl) | apply Trace.pu [_] (.loadCol1 ty27 (.plain rfl) rfl rfl rfl (fun _ => by omega))
    apply Trace.pu [] (.move (.plain rfl))
    apply Trace.pu [] (.move (.plain rfl))
    apply Trace.pu [] (.cutRows3 so27 (.plain rfl) (.plain rfl) (.plain rfl) (fun _ => ⟨by omega, by omega, by omega⟩))
    apply Trace.pu [] (.assign (.plain rfl))
    exact .nil _
  · exact keepOK_of hk hn rfl
  apply WPA.seq
  apply WPA.region
  · apply Trace.pu [] (.move (.plain rfl))
    apply Trace.pu [] (.move (.plain rfl))
    apply Trace.pu [] (.nilCheck (.plain rfl) rfl)
    apply Trace.pu [] (.fieldAddr fl58_0 (.plain rfl) rfl)
    first | apply Trace.pu [_] (.loadLoc1D ty27 (.plain rfl) rfl rfl) | apply Trace.pu [_] (.loadLoc1 ty27 (.plain rfl) rfl rfl) | apply Trace.pu [] (.loadRp1 ty27 (.plain rfl) rfl) | apply Trace.pu [_] (.loadCol1 ty27 (.plain rfl) rfl rfl rfl (fun _ => by omega))
    apply Trace.pu [] (.move (.plain rfl))
    first | apply Trace.pu [] (.cutRows so27 (.plain rfl) (.to _ (.plain rfl) (fun _ => by omega)) (.no _) (fun _ => ⟨by omega, by omega⟩)) | apply Trace.pu [] (.cutOwn so27 (.plain rfl) (.to _ (.plain rfl) (fun _ => by omega)) (.no _) (fun _ => ⟨by omega, by omega⟩)) | apply Trace.pu [] (.cutSl so27 (.plain rfl) (.to _ (.plain rfl) (fun _ => by omega)) (.no _) (fun _ => ⟨by omega, by omega⟩))
    apply Trace.pu [] (.nilCheck (.plain rfl) rfl)
    apply Trace.pu [] (.fieldAddr fl58_0 (.plain rfl) rfl)
    first | apply Trace.storeD ty27 (.plain rfl) (.plain rfl) rfl rfl rfl (by simp [AV.oneB, single]) (Nat.le_of_ble_eq_true rfl) rfl | apply Trace.storeDA ty27 (.plain rfl) (.plain rfl) rfl rfl rfl (by simp [AV.oneB, single]) (Nat.le_of_ble_eq_true rfl) rfl | apply Trace.storeLoc ty27 (.plain rfl) (.plain rfl) rfl rfl rfl (by simp [AV.oneB, single]) (Nat.le_of_ble_eq_true rfl) rfl | apply Trace.storeRow ty27 (.plain rfl) (.plain rfl) rfl rfl rfl rfl (by decide) (by simp [AV.oneB, single]) rfl (by omega)
    exact .nil _
  · exact keepOK_of hk hn rfl
  apply WPA.seq
  apply WPA.region
  · apply Trace.pu [] (.move (.plain rfl))
    apply Trace.pu [] (.assign (.plain rfl))
    exact .nil _
  · exact keepOK_of hk hn rfl
  apply WPA.ret
  refine ⟨.inr rfl, ⟨_, (.cons (.tmp rfl) .nil), ?_⟩, blks_of (.cons (by show some (Cont.blk (.data [_])) = _; simp only [restD, Nat.add_assoc]; rfl) .nil)⟩
  rfl
/-- (soundpost/codec.reader).take: a panic -/
theorem panic44 (xs : List Int) (at_ m n : Nat) (hm : m ≤ 140737488355328) (hn : n ≤ 140737488355328) (h : m < n) : PSpec Try.prog 44 [.loc 0 0, iv .i64 n] [(bk 0, readB xs at_ m)] badCode := by
  refine pSpec_of Try.func44 rfl (Nat.le_of_ble_eq_true rfl) (odd_of rfl) fun E hk hn => ?_
  apply WPA.seq
  apply WPA.region
  · apply Trace.pu [] (.assign (.plain rfl))
    exact .nil _
  · exact keepOK_of hk hn rfl
  apply WPA.seq
  apply WPA.regionX 14
  · apply Trace.pu [] (.move (.plain rfl))
    apply Trace.pu [] (.move (.plain rfl))
    apply Trace.pu [] (.move (.plain rfl))
    apply Trace.pu [] (.nilCheck (.plain rfl) rfl)
    apply Trace.pu [] (.fieldAddr fl58_0 (.plain rfl) rfl)
    first | apply Trace.pu [_] (.loadLoc1D ty27 (.plain rfl) rfl rfl) | apply Trace.pu [_] (.loadLoc1 ty27 (.plain rfl) rfl rfl) | apply Trace.pu [] (.loadRp1 ty27 (.plain rfl) rfl) | apply Trace.pu [_] (.loadCol1 ty27 (.plain rfl) rfl rfl rfl (fun _ => by omega))
    apply Trace.pu [] (.len rfl Try.underlying27 (.plain rfl) rfl)
    apply Trace.pu [] ((Pure.cmp (.plain rfl) (.plain rfl) rfl).to (y := bv false) (by simp [h]))
    apply Trace.cx 14 (callArgs0 (.cons (.plain rfl) (.cons (.plain rfl) .nil))) (panic33 0) en33 .nil .nil rfl rfl
    exact .nil _
  · exact keepOK_of hk hn rfl
  · rfl

end Go.Proofs.Ytlccnbnnlfbfjaa

