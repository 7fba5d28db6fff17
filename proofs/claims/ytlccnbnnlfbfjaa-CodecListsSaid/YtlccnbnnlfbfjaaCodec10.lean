/- The reader of codec: lengths and values. -/
import Derived.Test.YtlccnbnnlfbfjaaCodec9
namespace Go.Proofs.Ytlccnbnnlfbfjaa
open Go
set_option linter.unusedVariables false
set_option linter.unusedSimpArgs false
set_option maxRecDepth 10000

theorem rnumber_le {xs : List Int} (hb : Bytes xs) {p n q : Nat} (h : rnumber xs p = some (n, q)) : q ≤ xs.length ∧ p < q ∧ n < 18446744073709551616 :=
  let h := rnumber_sound hb h; ⟨h.2.1, h.2.2.1, h.2.2.2⟩
/-- (soundpost/codec.reader).length -/
theorem spec47 (xs : List Int) (hx : xs.length ≤ 1000000) (hb : Bytes xs) (p : Nat) (hp : p ≤ xs.length) (n q : Nat) (h : rlength xs p = some (n, q)) : FnSpec Try.prog 47 [.loc 0 0] [(bk 0, readAt xs p)] (iv .i64 n) [(bk 0, readAt xs q)] [0] := by
  obtain ⟨h1, h2⟩ := rlength_some h
  obtain ⟨h3, h4, h5⟩ := rnumber_le hb h1
  refine fnSpec_of (rs := [.tmp 2]) Try.func47 rfl rfl (Nat.le_of_ble_eq_true rfl) (odd_of rfl) fun E hk hn => ?_
  apply WPA.seq
  apply WPA.region
  · apply Trace.pu [] (.assign (.plain rfl))
    exact .nil _
  · exact keepOK_of hk hn rfl
  apply WPA.seq
  apply WPA.region
  · apply Trace.pu [] (.move (.plain rfl))
    apply Trace.cb [] [bk 0] (callArgs0 (.cons (.plain rfl) .nil)) (spec46 xs (by omega) hb p hp n q h1) en46 (.cons rfl .nil) rfl rfl
    apply Trace.pu [] (.assign (.plain rfl))
    exact .nil _
  · exact keepOK_of hk hn rfl
  apply WPA.seq
  apply WPA.region
  · apply Trace.pu [] (.move (.plain rfl))
    apply Trace.pu [] (.move (.plain rfl))
    apply Trace.pu [] (.move (.plain rfl))
    apply Trace.pu [] (.nilCheck (.plain rfl) rfl)
    apply Trace.pu [] (.fieldAddr fl58_0 (.plain rfl) rfl)
    first | apply Trace.pu [_] (.loadLoc1D ty27 (.plain rfl) rfl rfl) | apply Trace.pu [_] (.loadLoc1 ty27 (.plain rfl) rfl rfl) | apply Trace.pu [] (.loadRp1 ty27 (.plain rfl) rfl) | apply Trace.pu [_] (.loadCol1 ty27 (.plain rfl) rfl rfl rfl (fun _ => by omega))
    apply Trace.pu [] (.len rfl Try.underlying27 (.plain rfl) rfl)
    apply Trace.pu [] ((Pure.conv Try.underlying3 Try.underlying68 (.plain rfl)).to (y := iv .u64 ((xs.length - q : Nat) : Int)) (by rw [wrap_u64_id (by omega)]))
    apply Trace.pu [] ((Pure.cmp (.plain rfl) (.plain rfl) rfl).to (y := bv true) (by simp; omega))
    apply Trace.ct (ds := []) (callArgs0 (.cons (.plain rfl) (.cons (.plain rfl) .nil))) (spec33 0) en33
    exact .nil _
  · exact keepOK_of hk hn rfl
  apply WPA.seq
  apply WPA.region
  · apply Trace.pu [] (.move (.plain rfl))
    apply Trace.pu [] ((Pure.conv Try.underlying68 Try.underlying3 (.plain rfl)).to (y := iv .i64 (n : Int)) (by rw [wrap_i64_id (by omega)]))
    apply Trace.pu [] (.assign (.plain rfl))
    exact .nil _
  · exact keepOK_of hk hn rfl
  apply WPA.ret
  refine ⟨.inr rfl, ⟨_, (.cons (.tmp rfl) .nil), ?_⟩, blks_of (.cons rfl .nil)⟩
  rfl
/-- (soundpost/codec.reader).length: a panic -/
theorem panic47 (xs : List Int) (hx : xs.length ≤ 1000000) (hb : Bytes xs) (p : Nat) (hp : p ≤ xs.length) (h : rlength xs p = none) : PSpec Try.prog 47 [.loc 0 0] [(bk 0, readAt xs p)] badCode := by
  refine pSpec_of Try.func47 rfl (Nat.le_of_ble_eq_true rfl) (odd_of rfl) fun E hk hn => ?_
  apply WPA.seq
  apply WPA.region
  · apply Trace.pu [] (.assign (.plain rfl))
    exact .nil _
  · exact keepOK_of hk hn rfl
  apply WPA.seq
  rcases rlength_stop h with h1 | ⟨n, q, h1, h2⟩
  · apply WPA.regionX 5
    · apply Trace.pu [] (.move (.plain rfl))
      apply Trace.cx 5 (callArgs0 (.cons (.plain rfl) .nil)) (panic46 xs (by omega) hb p hp h1) en46 (.cons rfl .nil) .nil rfl rfl
      apply Trace.bot 5 rfl
      exact .nil _
    · exact keepOK_of hk hn rfl
    · rfl
  obtain ⟨h3, h4, h5⟩ := rnumber_le hb h1
  apply WPA.region
  · apply Trace.pu [] (.move (.plain rfl))
    apply Trace.cb [] [bk 0] (callArgs0 (.cons (.plain rfl) .nil)) (spec46 xs (by omega) hb p hp n q h1) en46 (.cons rfl .nil) rfl rfl
    apply Trace.pu [] (.assign (.plain rfl))
    exact .nil _
  · exact keepOK_of hk hn rfl
  apply WPA.seq
  apply WPA.regionX 15
  · apply Trace.pu [] (.move (.plain rfl))
    apply Trace.pu [] (.move (.plain rfl))
    apply Trace.pu [] (.move (.plain rfl))
    apply Trace.pu [] (.nilCheck (.plain rfl) rfl)
    apply Trace.pu [] (.fieldAddr fl58_0 (.plain rfl) rfl)
    first | apply Trace.pu [_] (.loadLoc1D ty27 (.plain rfl) rfl rfl) | apply Trace.pu [_] (.loadLoc1 ty27 (.plain rfl) rfl rfl) | apply Trace.pu [] (.loadRp1 ty27 (.plain rfl) rfl) | apply Trace.pu [_] (.loadCol1 ty27 (.plain rfl) rfl rfl rfl (fun _ => by omega))
    apply Trace.pu [] (.len rfl Try.underlying27 (.plain rfl) rfl)
    apply Trace.pu [] ((Pure.conv Try.underlying3 Try.underlying68 (.plain rfl)).to (y := iv .u64 ((xs.length - q : Nat) : Int)) (by rw [wrap_u64_id (by omega)]))
    apply Trace.pu [] ((Pure.cmp (.plain rfl) (.plain rfl) rfl).to (y := bv false) (by simp; omega))
    apply Trace.cx 15 (callArgs0 (.cons (.plain rfl) (.cons (.plain rfl) .nil))) (panic33 0) en33 .nil .nil rfl rfl
    exact .nil _
  · exact keepOK_of hk hn rfl
  · rfl
/-- (soundpost/codec.reader).value -/
theorem spec32 (xs : List Int) (hx : xs.length ≤ 1000000) (hb : Bytes xs) (d : Nat) (hd16 : d ≤ 16) (p : Nat) (hp : p ≤ xs.length) (v : Val) (q : Nat) (h : rval xs d p = some (v, q)) : FnSpec Try.prog 32 [.loc 0 0, iv .i64 (16 - (d : Int))] [(bk 0, readAt xs p)] (v.av) [(bk 0, readAt xs q)] [0] := by
  revert hd16 p v q
  induction d using Nat.strongRecOn
  rename_i d ih
  intro hd16 p hp v q h
  obtain ⟨c, hc, hcase⟩ := rval_step h
  have hcb := hb c (List.mem_of_getElem? hc)
  have hpl := (List.getElem?_eq_some_iff.1 hc).1
  refine fnSpec_of (rs := [.cell 4 24]) Try.func32 rfl rfl (Nat.le_of_ble_eq_true rfl) (odd_of rfl) fun E hk hn => ?_
  apply WPA.seq
  apply WPA.region
  · apply Trace.alloc 4 [] (.data _) zo24 (cellsAs_data _) rfl
    exact .nil _
  · exact keepOK_of hk hn rfl
  apply WPA.seq
  apply WPA.region
  · apply Trace.pu [] (.move (.plain rfl))
    apply Trace.cb [] [bk 0] (callArgs0 (.cons (.plain rfl) (.cons (.plain rfl) .nil))) (spec44 xs p (xs.length - p) 1 (by omega) (by omega) (by omega)) en44 (.cons rfl .nil) rfl rfl
    first | apply Trace.pu [] (.indexRows el27 (.plain rfl) (.plain rfl) (fun _ => ⟨by omega, by omega⟩)) | apply Trace.pu [] (.indexOwn el27 (.plain rfl) (.plain rfl) (fun _ => ⟨by omega, by omega⟩)) | apply Trace.pu [] (.indexSl el27 (.plain rfl) (.plain rfl) (fun _ => ⟨by omega, by omega⟩))
    apply Trace.pu [] ((Pure.loadRp1 ty5 (.plain rfl) rfl).to (y := iv .u8 c) (by show AV.d (.v (.int .u8 (xs.getD (p + 0) 0))) = _; rw [Nat.add_zero, getD_of hc]))
    apply Trace.pu [] ((Pure.conv Try.underlying5 Try.underlying3 (.plain rfl)).to (y := iv .i64 c) (by rw [wrap_i64_id (by omega)]))
    apply Trace.pu [] (.fieldAddr fl24_0 (.plain rfl) rfl)
    first | apply Trace.storeD ty3 (.plain rfl) (.plain rfl) rfl rfl rfl (by simp [AV.oneB, single]) (Nat.le_of_ble_eq_true rfl) rfl | apply Trace.storeDA ty3 (.plain rfl) (.plain rfl) rfl rfl rfl (by simp [AV.oneB, single]) (Nat.le_of_ble_eq_true rfl) rfl | apply Trace.storeLoc ty3 (.plain rfl) (.plain rfl) rfl rfl rfl (by simp [AV.oneB, single]) (Nat.le_of_ble_eq_true rfl) rfl | apply Trace.storeRow ty3 (.plain rfl) (.plain rfl) rfl rfl rfl rfl (by decide) (by simp [AV.oneB, single]) rfl (by omega)
    exact .nil _
  · exact keepOK_of hk hn rfl
  apply WPA.seq
  apply WPA.seq
  rw [readAt_next]
  apply WPA.region
  · apply Trace.pu [] (.fieldAddr fl24_0 (.plain rfl) rfl)
    first | apply Trace.pu [_] (.loadLoc1D ty3 (.plain rfl) rfl rfl) | apply Trace.pu [_] (.loadLoc1 ty3 (.plain rfl) rfl rfl) | apply Trace.pu [] (.loadRp1 ty3 (.plain rfl) rfl) | apply Trace.pu [_] (.loadCol1 ty3 (.plain rfl) rfl rfl rfl (fun _ => by omega))
    exact .nil _
  · exact keepOK_of hk hn rfl
  apply WPA.block
  apply WPA.seq
  apply WPA.region
  · apply Trace.pu [] (.cmp (.plain rfl) (.plain rfl) rfl)
    apply Trace.pu [] (.assign (.plain rfl))
    exact .nil _
  · exact keepOK_of hk hn rfl
  refine WPA.cond rfl (fun hc1 => ?_) (fun hc1 => ?_)
  · have hc1 : c = 1 := by simpa using hc1
    subst hc1
    rcases hcase with ⟨_, u, hnum, rfl⟩ | ⟨h2, _⟩ | ⟨h2, _⟩
    case inr.inl => omega
    case inr.inr => omega
    refine WPA.ghost (Ghost.dataLe (l := 4) rfl (.same (.same (.same (.rows (n := 4) (g := Val.row []) .nil))))) ?_
    apply WPA.region
    · apply Trace.pu [] (.move (.plain rfl))
      apply Trace.cb [] [bk 0] (callArgs0 (.cons (.plain rfl) .nil)) (spec46 xs (by omega) hb (p + 1) (by omega) u q hnum) en46 (.cons rfl .nil) rfl rfl
      apply Trace.cu (callArgs0 (.cons (.plain rfl) .nil)) (spec45 u (rnumber_le hb hnum).2.2) en45
      apply Trace.pu [] (.fieldAddr fl24_1 (.plain rfl) rfl)
      first | apply Trace.storeD ty3 (.plain rfl) (.plain rfl) rfl rfl rfl (by simp [AV.oneB, single]) (Nat.le_of_ble_eq_true rfl) rfl | apply Trace.storeDA ty3 (.plain rfl) (.plain rfl) rfl rfl rfl (by simp [AV.oneB, single]) (Nat.le_of_ble_eq_true rfl) rfl | apply Trace.storeLoc ty3 (.plain rfl) (.plain rfl) rfl rfl rfl (by simp [AV.oneB, single]) (Nat.le_of_ble_eq_true rfl) rfl | apply Trace.storeRow ty3 (.plain rfl) (.plain rfl) rfl rfl rfl rfl (by decide) (by simp [AV.oneB, single]) rfl (by omega)
      exact .nil _
    · exact keepOK_of hk hn rfl
    apply WPA.seq
    apply WPA.region
    · first | apply Trace.pu [_] (.loadAllD ty24 (.plain rfl) rfl (by simp [spliceL])) | apply Trace.pu [_] (.loadLocD ty24 (.plain rfl) rfl (fun _ => by simp [spliceL])) | apply Trace.pu [_] (.loadLoc ty24 (.plain rfl) rfl (fun _ => Nat.le_of_ble_eq_true rfl)) | apply Trace.pu [] (.loadRp ty24 (.plain rfl) (fun _ => by decide)) | apply Trace.pu [_] (.loadCol ty24 (.plain rfl) rfl rfl (fun _ => by decide) (fun _ => by omega)) | apply Trace.pu [_] (.loadArr ty24 (.plain rfl) rfl)
      first | apply Trace.storeD ty24 (.plain rfl) (.plain rfl) rfl rfl (by simp [spliceL]) (by simp [AV.oneB, single, spliceL]) (by simp [spliceL]) (spliceL_all (by simp [spliceL])) | apply Trace.storeD ty24 (.plain rfl) (.plain rfl) rfl rfl (by simp [spliceL]) (by simp [AV.oneB, single, spliceL]) (by simp [spliceL]) rfl | apply Trace.storeDA ty24 (.plain rfl) (.plain rfl) rfl rfl (by simp [spliceL]) (by simp [AV.oneB, single]) (by simp [spliceL]) rfl | apply Trace.storeLoc ty24 (.plain rfl) (.plain rfl) rfl rfl (by simp [spliceL]) (by simp [AV.oneB, single]) (by simp) rfl | apply Trace.storeRow ty24 (.plain rfl) (.plain rfl) rfl rfl rfl rfl (by decide) (by simp [AV.oneB, single]) rfl (by omega)
      exact .nil _
    · exact keepOK_of hk hn rfl
    apply WPA.ret
    refine ⟨.inr rfl, ⟨_, (.cons (by first | exact .cellN rfl rfl ty24 rfl | exact .cellD rfl rfl ty24 rfl) .nil), ?_⟩, blks_of (.cons (by first | rfl | exact congrArg some (readAt_next xs _ _)) .nil)⟩
    rfl
  · have hc1 : c ≠ 1 := by simpa using hc1
    apply WPA.seq
    apply WPA.region
    · apply Trace.pu [] (.cmp (.plain rfl) (.plain rfl) rfl)
      apply Trace.pu [] (.assign (.plain rfl))
      exact .nil _
    · exact keepOK_of hk hn rfl
    refine WPA.cond rfl (fun hc2 => ?_) (fun hc2 => ?_)
    · have hc2 : c = 2 := by simpa using hc2
      subst hc2
      rcases hcase with ⟨h2, _⟩ | ⟨_, n, r, hlen, rfl, rfl⟩ | ⟨h2, _⟩
      case inl => omega
      case inr.inr => omega
      obtain ⟨hn1, hn2⟩ := rlength_some hlen
      obtain ⟨hn3, hn4, hn5⟩ := rnumber_le hb hn1
      refine WPA.ghost (Ghost.dataLe (l := 4) rfl (.same (.same (.same (.rows (n := 4) (g := Val.row []) .nil))))) ?_
      apply WPA.region
      · apply Trace.pu [] (.move (.plain rfl))
        apply Trace.pu [] (.move (.plain rfl))
        apply Trace.cb [] [bk 0] (callArgs0 (.cons (.plain rfl) .nil)) (spec47 xs hx hb (p + 1) (by omega) n r hlen) en47 (.cons rfl .nil) rfl rfl
        apply Trace.cb [] [bk 0] (callArgs0 (.cons (.plain rfl) (.cons (.plain rfl) .nil))) (spec44 xs r (xs.length - r) n (by omega) (by omega) (by omega)) en44 (.cons rfl .nil) rfl rfl
        apply Trace.pu [] (.strRows (xs := (xs.drop r).take n) bs27 Try.underlying9 (.plain rfl) (fun _ => by simp; omega) (fun _ i hi => by simp [List.getD, hi]))
        apply Trace.pu [] (.fieldAddr fl24_2 (.plain rfl) rfl)
        first | apply Trace.storeD ty9 (.plain rfl) (.plain rfl) rfl rfl rfl (by simp [AV.oneB, single]) (Nat.le_of_ble_eq_true rfl) rfl | apply Trace.storeDA ty9 (.plain rfl) (.plain rfl) rfl rfl rfl (by simp [AV.oneB, single]) (Nat.le_of_ble_eq_true rfl) rfl | apply Trace.storeLoc ty9 (.plain rfl) (.plain rfl) rfl rfl rfl (by simp [AV.oneB, single]) (Nat.le_of_ble_eq_true rfl) rfl | apply Trace.storeRow ty9 (.plain rfl) (.plain rfl) rfl rfl rfl rfl (by decide) (by simp [AV.oneB, single]) rfl (by omega)
        exact .nil _
      · exact keepOK_of hk hn rfl
      apply WPA.seq
      apply WPA.region
      · first | apply Trace.pu [_] (.loadAllD ty24 (.plain rfl) rfl (by simp [spliceL])) | apply Trace.pu [_] (.loadLocD ty24 (.plain rfl) rfl (fun _ => by simp [spliceL])) | apply Trace.pu [_] (.loadLoc ty24 (.plain rfl) rfl (fun _ => Nat.le_of_ble_eq_true rfl)) | apply Trace.pu [] (.loadRp ty24 (.plain rfl) (fun _ => by decide)) | apply Trace.pu [_] (.loadCol ty24 (.plain rfl) rfl rfl (fun _ => by decide) (fun _ => by omega)) | apply Trace.pu [_] (.loadArr ty24 (.plain rfl) rfl)
        first | apply Trace.storeD ty24 (.plain rfl) (.plain rfl) rfl rfl (by simp [spliceL]) (by simp [AV.oneB, single, spliceL]) (by simp [spliceL]) (spliceL_all (by simp [spliceL])) | apply Trace.storeD ty24 (.plain rfl) (.plain rfl) rfl rfl (by simp [spliceL]) (by simp [AV.oneB, single, spliceL]) (by simp [spliceL]) rfl | apply Trace.storeDA ty24 (.plain rfl) (.plain rfl) rfl rfl (by simp [spliceL]) (by simp [AV.oneB, single]) (by simp [spliceL]) rfl | apply Trace.storeLoc ty24 (.plain rfl) (.plain rfl) rfl rfl (by simp [spliceL]) (by simp [AV.oneB, single]) (by simp) rfl | apply Trace.storeRow ty24 (.plain rfl) (.plain rfl) rfl rfl rfl rfl (by decide) (by simp [AV.oneB, single]) rfl (by omega)
        exact .nil _
      · exact keepOK_of hk hn rfl
      apply WPA.ret
      refine ⟨.inr rfl, ⟨_, (.cons (by first | exact .cellN rfl rfl ty24 rfl | exact .cellD rfl rfl ty24 rfl) .nil), ?_⟩, blks_of (.cons (by first | rfl | exact congrArg some (readAt_next xs _ _)) .nil)⟩
      rfl
    · have hc2 : c ≠ 2 := by simpa using hc2
      apply WPA.seq
      apply WPA.region
      · apply Trace.pu [] (.cmp (.plain rfl) (.plain rfl) rfl)
        apply Trace.pu [] (.assign (.plain rfl))
        exact .nil _
      · exact keepOK_of hk hn rfl
      refine WPA.cond rfl (fun hc3 => ?_) (fun hc3 => ?_)
      · have hc3 : c = 3 := by simpa using hc3
        subst hc3
        rcases hcase with ⟨h2, _⟩ | ⟨h2, _⟩ | ⟨_, d, n, r, l, rfl, hlen, hvs, rfl⟩
        case inl => omega
        case inr.inl => omega
        apply WPA.seq
        apply WPA.region
        · apply Trace.pu [] (.move (.plain rfl))
          apply Trace.pu [] (.move (.plain rfl))
          apply Trace.pu [] ((Pure.cmp (.plain rfl) (.plain rfl) rfl).to (y := bv true) (by simp; omega))
          apply Trace.ct (ds := []) (callArgs0 (.cons (.plain rfl) (.cons (.plain rfl) .nil))) (spec33 0) en33
          exact .nil _
        · exact keepOK_of hk hn rfl
        apply WPA.seq
        apply WPA.region
        · apply Trace.pu [] (.move (.plain rfl))
          apply Trace.cb [] [bk 0] (callArgs0 (.cons (.plain rfl) .nil)) (spec47 xs hx hb (p + 1) (by omega) n r hlen) en47 (.cons rfl .nil) rfl rfl
          apply Trace.pu [] (.move (.plain rfl))
          exact .nil _
        · exact keepOK_of hk hn rfl
        apply WPA.block
        refine WPA.ghost (Ghost.dataCells (l := 4) rfl rfl) ?_
        refine WPA.ghost (Ghost.cellNil (lb := 4) (j := 3) (l := 5) (cols := valCols []) (n := 4) rfl rfl rfl rfl (by rw [hk]; decide) rfl (valCols_len []) rfl) ?_
        obtain ⟨hn1, hn2⟩ := rlength_some hlen
        obtain ⟨hn3, hn4, hn5⟩ := rnumber_le hb hn1
        refine WPA.loop (σ := List Val × Nat) (fun i => [(sl 0, .av (.loc 0 0)), (sl 1, .av (iv .i64 (16 - ((d + 1 : Nat) : Int)))), (sl 4, .av (.loc 4 0)), (sl 36, .av (iv .i64 n)), (sl 37, .av (iv .i64 i.1.length)), (bk 0, readAt xs i.2), (bk 4, .blk (.cells [iv .i64 3, iv .i64 0, sv ⟨#[]⟩, .own 5 i.1.length])), (bk 5, .blk (.app 4 i.1.length (valCols i.1)))]) (fun i => i.1.length ≤ n ∧ i.2 ≤ xs.length ∧ ∃ t, rvals (rval xs d) (n - i.1.length) i.2 = some (t, q) ∧ l = i.1 ++ t) (fun i => n - i.1.length) ([], r)
          (St.le_cons rfl (St.le_cons rfl (St.le_cons rfl (St.le_cons rfl (St.le_cons rfl (St.le_cons rfl (St.le_cons rfl (St.le_cons rfl (St.le_nil _))))))))) ⟨by show 0 ≤ n; omega, hn3, l, hvs, rfl⟩ fun i hi => ?_
        obtain ⟨acc, j⟩ := i
        obtain ⟨hac, hj, hi⟩ := hi
        simp only at hac hj hi
        dsimp only
        obtain ⟨t, hrv, hl⟩ := hi
        apply WPA.seq
        apply WPA.region
        · apply Trace.pu [] (.cmp (.plain rfl) (.plain rfl) rfl)
          exact .nil _
        · exact keepOK_of hk hn rfl
        apply WPA.seq
        refine WPA.cond rfl (fun hc4 => ?_) (fun hc4 => ?_)
        · have hlt : acc.length < n := by simpa using hc4
          rw [show n - acc.length = (n - acc.length - 1) + 1 by omega] at hrv
          obtain ⟨y, r', t', hval, hrv', rfl⟩ := rvals_step hrv
          have hrd := rval_sound hb (by omega) _ _ _ _ hval
          rcases y with ⟨k', n', s', m'⟩
          apply WPA.skip
          apply WPA.seq
          apply WPA.block
          apply WPA.draw mixed
          · apply Trace.pu [] (.fieldAddr fl24_3 (.plain rfl) rfl)
            first | apply Trace.pu [_] (.loadLoc1D ty22 (.plain rfl) rfl rfl) | apply Trace.pu [_] (.loadLoc1 ty22 (.plain rfl) rfl rfl) | apply Trace.pu [] (.loadRp1 ty22 (.plain rfl) rfl) | apply Trace.pu [_] (.loadCol1 ty22 (.plain rfl) rfl rfl rfl (fun _ => by omega))
            apply Trace.pu [] (.move (.plain rfl))
            apply Trace.pu [] (.move (.plain rfl))
            apply Trace.pu [] ((Pure.arith (.plain rfl) (.plain rfl) rfl (fun _ => bd64 (by omega))).to (y := iv .i64 (16 - (d : Int))) (congrArg (fun z => iv .i64 z) (show (16 - ((d + 1 : Nat) : Int) + 1) = 16 - (d : Int) by omega)))
            apply Trace.cb [] [bk 0] (callArgs0 (.cons (.plain rfl) (.cons (.plain rfl) .nil))) (ih d (by omega) (by omega) j hj (.mk k' n' s' m') r' hval) en32 (.cons rfl .nil) rfl rfl
            apply Trace.buildSlice 45 [] so22 zo24 rfl (by decide) (by decide) (.cons (.plain rfl) rfl rfl (Nat.le_of_ble_eq_true rfl) (.nil _ _)) rfl rfl rfl
            apply Trace.append 46 [bk 5] ap22 kd22 (by decide) (.own (.plain rfl) rfl) (.own (.plain rfl) rfl) (Col.ones rfl) (labs_ok rfl) (by omega) (by omega) (valCols_snoc acc k' n' s' m') rfl
            apply Trace.pu [] (.fieldAddr fl24_3 (.plain rfl) rfl)
            apply Trace.storeLoc ty22 (.plain rfl) (.plain rfl) rfl rfl rfl (by simp [AV.oneB, single]) (Nat.le_of_ble_eq_true rfl) rfl
            exact .nil _
          · rfl
          · exact keepOK_of hk hn rfl
          refine WPA.ghost (Ghost.swap 5 46 (by rw [hk]; decide) (by rw [hk]; decide) rfl) ?_
          apply WPA.region
          · apply Trace.pu [] (.arith (.plain rfl) (.plain rfl) rfl (fun _ => bd64 (by omega)))
            apply Trace.pu [] (.move (.plain rfl))
            exact .nil _
          · exact keepOK_of hk hn rfl
          exact ⟨(acc ++ [.mk k' n' s' m'], r'), ⟨by show (acc ++ _).length ≤ n; simp; omega, hrd.le, t', by show rvals _ (n - (acc ++ _).length) _ = _; rw [show n - (acc ++ [Val.mk k' n' s' m']).length = n - acc.length - 1 by simp; omega]; exact hrv', by rw [hl]; simp⟩, by show n - (acc ++ _).length < n - acc.length; simp; omega,
            St.le_cons rfl (St.le_cons rfl (St.le_cons rfl (St.le_cons rfl (St.le_cons (iv_eq (by show (acc.length : Int) + 1 = (((acc ++ _).length : Nat) : Int); simp)) (St.le_cons rfl (St.le_cons (by simp; rfl) (St.le_cons (by simp; rfl) (St.le_nil _))))))))⟩
        · have hil : n - acc.length = 0 := by
            have : ¬ ((acc.length : Int) < n) := by simpa using hc4
            omega
          rw [hil] at hrv
          simp only [rvals, Option.some.injEq, Prod.mk.injEq] at hrv
          obtain ⟨rfl, rfl⟩ := hrv
          rw [List.append_nil] at hl
          subst hl
          refine WPA.ghost (Ghost.cellFreeze (lb := 4) (j := 3) (l := 5) (g := Val.row l) rfl rfl rfl rfl (fun i hi => valCols_row l i hi) rfl) ?_
          apply WPA.exit
          apply WPA.seq
          apply WPA.region
          · first | apply Trace.pu [_] (.loadAllD ty24 (.plain rfl) rfl (by simp [spliceL])) | apply Trace.pu [_] (.loadLocD ty24 (.plain rfl) rfl (fun _ => by simp [spliceL])) | apply Trace.pu [_] (.loadLoc ty24 (.plain rfl) rfl (fun _ => Nat.le_of_ble_eq_true rfl)) | apply Trace.pu [] (.loadRp ty24 (.plain rfl) (fun _ => by decide)) | apply Trace.pu [_] (.loadCol ty24 (.plain rfl) rfl rfl (fun _ => by decide) (fun _ => by omega)) | apply Trace.pu [_] (.loadArr ty24 (.plain rfl) rfl)
            first | apply Trace.storeD ty24 (.plain rfl) (.plain rfl) rfl rfl (by simp [spliceL]) (by simp [AV.oneB, single, spliceL]) (by simp [spliceL]) (spliceL_all (by simp [spliceL])) | apply Trace.storeD ty24 (.plain rfl) (.plain rfl) rfl rfl (by simp [spliceL]) (by simp [AV.oneB, single, spliceL]) (by simp [spliceL]) rfl | apply Trace.storeDA ty24 (.plain rfl) (.plain rfl) rfl rfl (by simp [spliceL]) (by simp [AV.oneB, single]) (by simp [spliceL]) rfl | apply Trace.storeLoc ty24 (.plain rfl) (.plain rfl) rfl rfl (by simp [spliceL]) (by simp [AV.oneB, single]) (by simp) rfl | apply Trace.storeRow ty24 (.plain rfl) (.plain rfl) rfl rfl rfl rfl (by decide) (by simp [AV.oneB, single]) rfl (by omega)
            exact .nil _
          · exact keepOK_of hk hn rfl
          apply WPA.ret
          refine ⟨.inr rfl, ⟨_, (.cons (by first | exact .cellN rfl rfl ty24 rfl | exact .cellD rfl rfl ty24 rfl) .nil), ?_⟩, blks_of (.cons (by first | rfl | exact congrArg some (readAt_next xs _ _)) .nil)⟩
          rfl
      · exfalso
        have hc3 : c ≠ 3 := by simpa using hc3
        rcases hcase with ⟨h2, _⟩ | ⟨h2, _⟩ | ⟨h2, _⟩ <;> omega
/-- (soundpost/codec.reader).value: a panic -/
theorem panic32 (xs : List Int) (hx : xs.length ≤ 1000000) (hb : Bytes xs) (d : Nat) (hd16 : d ≤ 16) (p : Nat) (hp : p ≤ xs.length) (h : rval xs d p = none) : PSpec Try.prog 32 [.loc 0 0, iv .i64 (16 - (d : Int))] [(bk 0, readAt xs p)] badCode := by
  revert hd16 p
  induction d using Nat.strongRecOn
  rename_i d ih
  intro hd16 p hp h
  refine pSpec_of Try.func32 rfl (Nat.le_of_ble_eq_true rfl) (odd_of rfl) fun E hk hn => ?_
  apply WPA.seq
  apply WPA.region
  · apply Trace.alloc 4 [] (.data _) zo24 (cellsAs_data _) rfl
    exact .nil _
  · exact keepOK_of hk hn rfl
  apply WPA.seq
  rcases rval_stop h with hc | ⟨c, hc, hcase⟩
  · have hpl : xs.length ≤ p := by rwa [List.getElem?_eq_none_iff] at hc
    apply WPA.regionX 6
    · apply Trace.pu [] (.move (.plain rfl))
      apply Trace.cx 6 (callArgs0 (.cons (.plain rfl) (.cons (.plain rfl) .nil))) (panic44 xs p (xs.length - p) 1 (by omega) (by omega) (by omega)) en44 (.cons rfl .nil) .nil rfl rfl
      apply Trace.bot 6 rfl
      apply Trace.bot 6 rfl
      apply Trace.bot 6 rfl
      apply Trace.bot 6 rfl
      apply Trace.bot 6 rfl
      exact .nil _
    · exact keepOK_of hk hn rfl
    · rfl
  have hcb := hb c (List.mem_of_getElem? hc)
  have hpl := (List.getElem?_eq_some_iff.1 hc).1
  apply WPA.region
  · apply Trace.pu [] (.move (.plain rfl))
    apply Trace.cb [] [bk 0] (callArgs0 (.cons (.plain rfl) (.cons (.plain rfl) .nil))) (spec44 xs p (xs.length - p) 1 (by omega) (by omega) (by omega)) en44 (.cons rfl .nil) rfl rfl
    first | apply Trace.pu [] (.indexRows el27 (.plain rfl) (.plain rfl) (fun _ => ⟨by omega, by omega⟩)) | apply Trace.pu [] (.indexOwn el27 (.plain rfl) (.plain rfl) (fun _ => ⟨by omega, by omega⟩)) | apply Trace.pu [] (.indexSl el27 (.plain rfl) (.plain rfl) (fun _ => ⟨by omega, by omega⟩))
    apply Trace.pu [] ((Pure.loadRp1 ty5 (.plain rfl) rfl).to (y := iv .u8 c) (by show AV.d (.v (.int .u8 (xs.getD (p + 0) 0))) = _; rw [Nat.add_zero, getD_of hc]))
    apply Trace.pu [] ((Pure.conv Try.underlying5 Try.underlying3 (.plain rfl)).to (y := iv .i64 c) (by rw [wrap_i64_id (by omega)]))
    apply Trace.pu [] (.fieldAddr fl24_0 (.plain rfl) rfl)
    first | apply Trace.storeD ty3 (.plain rfl) (.plain rfl) rfl rfl rfl (by simp [AV.oneB, single]) (Nat.le_of_ble_eq_true rfl) rfl | apply Trace.storeDA ty3 (.plain rfl) (.plain rfl) rfl rfl rfl (by simp [AV.oneB, single]) (Nat.le_of_ble_eq_true rfl) rfl | apply Trace.storeLoc ty3 (.plain rfl) (.plain rfl) rfl rfl rfl (by simp [AV.oneB, single]) (Nat.le_of_ble_eq_true rfl) rfl | apply Trace.storeRow ty3 (.plain rfl) (.plain rfl) rfl rfl rfl rfl (by decide) (by simp [AV.oneB, single]) rfl (by omega)
    exact .nil _
  · exact keepOK_of hk hn rfl
  apply WPA.seq
  apply WPA.seq
  rw [readAt_next]
  apply WPA.region
  · apply Trace.pu [] (.fieldAddr fl24_0 (.plain rfl) rfl)
    first | apply Trace.pu [_] (.loadLoc1D ty3 (.plain rfl) rfl rfl) | apply Trace.pu [_] (.loadLoc1 ty3 (.plain rfl) rfl rfl) | apply Trace.pu [] (.loadRp1 ty3 (.plain rfl) rfl) | apply Trace.pu [_] (.loadCol1 ty3 (.plain rfl) rfl rfl rfl (fun _ => by omega))
    exact .nil _
  · exact keepOK_of hk hn rfl
  apply WPA.block
  apply WPA.seq
  apply WPA.region
  · apply Trace.pu [] (.cmp (.plain rfl) (.plain rfl) rfl)
    apply Trace.pu [] (.assign (.plain rfl))
    exact .nil _
  · exact keepOK_of hk hn rfl
  refine WPA.cond rfl (fun hc1 => ?_) (fun hc1 => ?_)
  · have hc1 : c = 1 := by simpa using hc1
    subst hc1
    rcases hcase with ⟨_, hnum⟩ | ⟨h2, _⟩ | ⟨h2, _⟩ | h2
    case inr.inl => omega
    case inr.inr.inl => omega
    case inr.inr.inr => omega
    skip
    · apply WPA.regionX 18
      · apply Trace.pu [] (.move (.plain rfl))
        apply Trace.cx 18 (callArgs0 (.cons (.plain rfl) .nil)) (panic46 xs (by omega) hb (p + 1) (by omega) hnum) en46 (.cons rfl .nil) .nil rfl rfl
        apply Trace.bot 18 rfl
        apply Trace.bot 18 rfl
        apply Trace.bot 18 rfl
        exact .nil _
      · exact keepOK_of hk hn rfl
      · rfl
  · have hc1 : c ≠ 1 := by simpa using hc1
    apply WPA.seq
    apply WPA.region
    · apply Trace.pu [] (.cmp (.plain rfl) (.plain rfl) rfl)
      apply Trace.pu [] (.assign (.plain rfl))
      exact .nil _
    · exact keepOK_of hk hn rfl
    refine WPA.cond rfl (fun hc2 => ?_) (fun hc2 => ?_)
    · have hc2 : c = 2 := by simpa using hc2
      subst hc2
      rcases hcase with ⟨h2, _⟩ | ⟨_, hlen⟩ | ⟨h2, _⟩ | h2
      case inl => omega
      case inr.inr.inl => omega
      case inr.inr.inr => omega
      skip
      · apply WPA.regionX 25
        · apply Trace.pu [] (.move (.plain rfl))
          apply Trace.pu [] (.move (.plain rfl))
          apply Trace.cx 25 (callArgs0 (.cons (.plain rfl) .nil)) (panic47 xs hx hb (p + 1) (by omega) hlen) en47 (.cons rfl .nil) .nil rfl rfl
          apply Trace.bot 25 rfl
          apply Trace.bot 25 rfl
          apply Trace.bot 25 rfl
          apply Trace.bot 25 rfl
          exact .nil _
        · exact keepOK_of hk hn rfl
        · rfl
    · have hc2 : c ≠ 2 := by simpa using hc2
      apply WPA.seq
      apply WPA.region
      · apply Trace.pu [] (.cmp (.plain rfl) (.plain rfl) rfl)
        apply Trace.pu [] (.assign (.plain rfl))
        exact .nil _
      · exact keepOK_of hk hn rfl
      refine WPA.cond rfl (fun hc3 => ?_) (fun hc3 => ?_)
      · have hc3 : c = 3 := by simpa using hc3
        subst hc3
        rcases hcase with ⟨h2, _⟩ | ⟨h2, _⟩ | ⟨_, hsub⟩ | h2
        case inl => omega
        case inr.inl => omega
        case inr.inr.inr => omega
        apply WPA.seq
        rcases hsub with rfl | ⟨d, rfl, hsub⟩
        · apply WPA.regionX 34
          · apply Trace.pu [] (.move (.plain rfl))
            apply Trace.pu [] (.move (.plain rfl))
            apply Trace.pu [] ((Pure.cmp (.plain rfl) (.plain rfl) rfl).to (y := bv false) (by simp))
            apply Trace.cx 34 (callArgs0 (.cons (.plain rfl) (.cons (.plain rfl) .nil))) (panic33 0) en33 .nil .nil rfl rfl
            exact .nil _
          · exact keepOK_of hk hn rfl
          · rfl
        apply WPA.region
        · apply Trace.pu [] (.move (.plain rfl))
          apply Trace.pu [] (.move (.plain rfl))
          apply Trace.pu [] ((Pure.cmp (.plain rfl) (.plain rfl) rfl).to (y := bv true) (by simp; omega))
          apply Trace.ct (ds := []) (callArgs0 (.cons (.plain rfl) (.cons (.plain rfl) .nil))) (spec33 0) en33
          exact .nil _
        · exact keepOK_of hk hn rfl
        apply WPA.seq
        rcases hsub with hlen | ⟨n, r, hlen, hvs⟩
        · apply WPA.regionX 36
          · apply Trace.pu [] (.move (.plain rfl))
            apply Trace.cx 36 (callArgs0 (.cons (.plain rfl) .nil)) (panic47 xs hx hb (p + 1) (by omega) hlen) en47 (.cons rfl .nil) .nil rfl rfl
            apply Trace.bot 36 rfl
            exact .nil _
          · exact keepOK_of hk hn rfl
          · rfl
        apply WPA.region
        · apply Trace.pu [] (.move (.plain rfl))
          apply Trace.cb [] [bk 0] (callArgs0 (.cons (.plain rfl) .nil)) (spec47 xs hx hb (p + 1) (by omega) n r hlen) en47 (.cons rfl .nil) rfl rfl
          apply Trace.pu [] (.move (.plain rfl))
          exact .nil _
        · exact keepOK_of hk hn rfl
        apply WPA.block
        refine WPA.ghost (Ghost.dataCells (l := 4) rfl rfl) ?_
        refine WPA.ghost (Ghost.cellNil (lb := 4) (j := 3) (l := 5) (cols := valCols []) (n := 4) rfl rfl rfl rfl (by rw [hk]; decide) rfl (valCols_len []) rfl) ?_
        obtain ⟨hn1, hn2⟩ := rlength_some hlen
        obtain ⟨hn3, hn4, hn5⟩ := rnumber_le hb hn1
        refine WPA.loop (σ := List Val × Nat) (fun i => [(sl 0, .av (.loc 0 0)), (sl 1, .av (iv .i64 (16 - ((d + 1 : Nat) : Int)))), (sl 4, .av (.loc 4 0)), (sl 36, .av (iv .i64 n)), (sl 37, .av (iv .i64 i.1.length)), (bk 0, readAt xs i.2), (bk 4, .blk (.cells [iv .i64 3, iv .i64 0, sv ⟨#[]⟩, .own 5 i.1.length])), (bk 5, .blk (.app 4 i.1.length (valCols i.1)))]) (fun i => i.1.length ≤ n ∧ i.2 ≤ xs.length ∧ rvals (rval xs d) (n - i.1.length) i.2 = none) (fun i => n - i.1.length) ([], r)
          (St.le_cons rfl (St.le_cons rfl (St.le_cons rfl (St.le_cons rfl (St.le_cons rfl (St.le_cons rfl (St.le_cons rfl (St.le_cons rfl (St.le_nil _))))))))) ⟨by show 0 ≤ n; omega, hn3, hvs⟩ fun i hi => ?_
        obtain ⟨acc, j⟩ := i
        obtain ⟨hac, hj, hi⟩ := hi
        simp only at hac hj hi
        dsimp only
        have hrv := hi
        apply WPA.seq
        apply WPA.region
        · apply Trace.pu [] (.cmp (.plain rfl) (.plain rfl) rfl)
          exact .nil _
        · exact keepOK_of hk hn rfl
        apply WPA.seq
        refine WPA.cond rfl (fun hc4 => ?_) (fun hc4 => ?_)
        · have hlt : acc.length < n := by simpa using hc4
          rw [show n - acc.length = (n - acc.length - 1) + 1 by omega] at hrv
          have hst := rvals_stop hrv
          apply WPA.skip
          apply WPA.seq
          apply WPA.block
          rcases hst with hval | ⟨y, r', hval, hrv'⟩
          · apply WPA.drawX 44 mixed
            · apply Trace.pu [] (.fieldAddr fl24_3 (.plain rfl) rfl)
              first | apply Trace.pu [_] (.loadLoc1D ty22 (.plain rfl) rfl rfl) | apply Trace.pu [_] (.loadLoc1 ty22 (.plain rfl) rfl rfl) | apply Trace.pu [] (.loadRp1 ty22 (.plain rfl) rfl) | apply Trace.pu [_] (.loadCol1 ty22 (.plain rfl) rfl rfl rfl (fun _ => by omega))
              apply Trace.pu [] (.move (.plain rfl))
              apply Trace.pu [] (.move (.plain rfl))
              apply Trace.pu [] ((Pure.arith (.plain rfl) (.plain rfl) rfl (fun _ => bd64 (by omega))).to (y := iv .i64 (16 - (d : Int))) (congrArg (fun z => iv .i64 z) (show (16 - ((d + 1 : Nat) : Int) + 1) = 16 - (d : Int) by omega)))
              apply Trace.cx 44 (callArgs0 (.cons (.plain rfl) (.cons (.plain rfl) .nil))) (ih d (by omega) (by omega) j hj hval) en32 (.cons rfl .nil) .nil rfl rfl
              apply Trace.bot 44 rfl
              apply Trace.bot 44 rfl
              apply Trace.bot 44 rfl
              apply Trace.bot 44 rfl
              exact .nil _
            · rfl
            · exact keepOK_of hk hn rfl
            · rfl
          have hrd := rval_sound hb (by omega) _ _ _ _ hval
          rcases y with ⟨k', n', s', m'⟩
          apply WPA.draw mixed
          · apply Trace.pu [] (.fieldAddr fl24_3 (.plain rfl) rfl)
            first | apply Trace.pu [_] (.loadLoc1D ty22 (.plain rfl) rfl rfl) | apply Trace.pu [_] (.loadLoc1 ty22 (.plain rfl) rfl rfl) | apply Trace.pu [] (.loadRp1 ty22 (.plain rfl) rfl) | apply Trace.pu [_] (.loadCol1 ty22 (.plain rfl) rfl rfl rfl (fun _ => by omega))
            apply Trace.pu [] (.move (.plain rfl))
            apply Trace.pu [] (.move (.plain rfl))
            apply Trace.pu [] ((Pure.arith (.plain rfl) (.plain rfl) rfl (fun _ => bd64 (by omega))).to (y := iv .i64 (16 - (d : Int))) (congrArg (fun z => iv .i64 z) (show (16 - ((d + 1 : Nat) : Int) + 1) = 16 - (d : Int) by omega)))
            apply Trace.cb [] [bk 0] (callArgs0 (.cons (.plain rfl) (.cons (.plain rfl) .nil))) (spec32 xs hx hb d (by omega) j hj (.mk k' n' s' m') r' hval) en32 (.cons rfl .nil) rfl rfl
            apply Trace.buildSlice 45 [] so22 zo24 rfl (by decide) (by decide) (.cons (.plain rfl) rfl rfl (Nat.le_of_ble_eq_true rfl) (.nil _ _)) rfl rfl rfl
            apply Trace.append 46 [bk 5] ap22 kd22 (by decide) (.own (.plain rfl) rfl) (.own (.plain rfl) rfl) (Col.ones rfl) (labs_ok rfl) (by omega) (by omega) (valCols_snoc acc k' n' s' m') rfl
            apply Trace.pu [] (.fieldAddr fl24_3 (.plain rfl) rfl)
            apply Trace.storeLoc ty22 (.plain rfl) (.plain rfl) rfl rfl rfl (by simp [AV.oneB, single]) (Nat.le_of_ble_eq_true rfl) rfl
            exact .nil _
          · rfl
          · exact keepOK_of hk hn rfl
          refine WPA.ghost (Ghost.swap 5 46 (by rw [hk]; decide) (by rw [hk]; decide) rfl) ?_
          apply WPA.region
          · apply Trace.pu [] (.arith (.plain rfl) (.plain rfl) rfl (fun _ => bd64 (by omega)))
            apply Trace.pu [] (.move (.plain rfl))
            exact .nil _
          · exact keepOK_of hk hn rfl
          exact ⟨(acc ++ [.mk k' n' s' m'], r'), ⟨by show (acc ++ _).length ≤ n; simp; omega, hrd.le, by show rvals _ (n - (acc ++ _).length) _ = _; rw [show n - (acc ++ [Val.mk k' n' s' m']).length = n - acc.length - 1 by simp; omega]; exact hrv'⟩, by show n - (acc ++ _).length < n - acc.length; simp; omega,
            St.le_cons rfl (St.le_cons rfl (St.le_cons rfl (St.le_cons rfl (St.le_cons (iv_eq (by show (acc.length : Int) + 1 = (((acc ++ _).length : Nat) : Int); simp)) (St.le_cons rfl (St.le_cons (by simp; rfl) (St.le_cons (by simp; rfl) (St.le_nil _))))))))⟩
        · exfalso
          have hil : n - acc.length = 0 := by
            have : ¬ ((acc.length : Int) < n) := by simpa using hc4
            omega
          rw [hil] at hrv
          simp [rvals] at hrv
      · have hc3 : c ≠ 3 := by simpa using hc3
        skip
        · apply WPA.regionX 14
          · apply Trace.pu [] (.move (.plain rfl))
            apply Trace.cx 14 (callArgs0 (.cons (.plain rfl) (.cons (.plain rfl) .nil))) (panic33 0) en33 .nil .nil rfl rfl
            exact .nil _
          · exact keepOK_of hk hn rfl
          · rfl

end Go.Proofs.Ytlccnbnnlfbfjaa

