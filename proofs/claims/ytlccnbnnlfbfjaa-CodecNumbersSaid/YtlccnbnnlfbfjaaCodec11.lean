/- Decode of codec. -/
import Derived.Test.YtlccnbnnlfbfjaaCodec10
import Derived.Test.YtlccnbnnlfbfjaaCodecBad
namespace Go.Proofs.Ytlccnbnnlfbfjaa
open Go
set_option linter.unusedVariables false
set_option linter.unusedSimpArgs false
set_option maxRecDepth 10000

/-- soundpost/codec.Decode$1: deferred -/
theorem calm31 (C D : Blk) : DSpec Try.prog 31 [.loc 2 0, .loc 3 0] [(bk 2, .blk C), (bk 3, .blk D)] [(bk 2, .blk C), (bk 3, .blk D)] (.returning) (.returning) [2, 3] := by
  refine dSpec_of (x := .nilIface) Try.func31 rfl (Nat.le_of_ble_eq_true rfl) (odd_of rfl) (by decide) (by decide) rfl .calm fun E hk hn => ?_
  apply WPA.seq
  apply WPA.region
  · apply Trace.pu [] (.move (.plain rfl))
    apply Trace.pu [] (.neNil ni20 (.plain rfl) (by first | exact .inl ⟨rfl, rfl⟩ | exact .inr ⟨⟨_, _, rfl⟩, rfl⟩))
    exact .nil _
  · exact keepOK_of hk hn rfl
  refine WPA.cond rfl (fun hc1 => ?_) (fun hc1 => ?_)
  · cases hc1
  · apply WPA.skip
    exact ⟨.inl rfl, blks_of (.cons rfl (.cons rfl .nil))⟩
/-- soundpost/codec.Decode$1: deferred -/
theorem caught31 (ds : List D) (e : Int) (hl : ds.length = 4) : DSpec Try.prog 31 [.loc 2 0, .loc 3 0] [(bk 2, .blk (.data ds)), (bk 3, .blk (.data [.v (.int .i64 e)]))] [(bk 2, .blk (.data [.v (.int .i64 0), .v (.int .i64 0), .v (.string ⟨#[]⟩), .v (.slice none 0 0)])), (bk 3, .blk (.data [.v (.int .i64 10)]))] (.panicking badCode) (.panicking [{ v := .iface 28 (.int .i64 10), recovered := true }]) [2, 3] := by
  refine dSpec_of (x := .iface 28 (.int .i64 10)) Try.func31 rfl (Nat.le_of_ble_eq_true rfl) (odd_of rfl) (by decide) (by decide) rfl (.caught _ []) fun E hk hn => ?_
  apply WPA.seq
  apply WPA.region
  · apply Trace.pu [] (.move (.plain rfl))
    apply Trace.pu [] (.neNil ni20 (.plain rfl) (by first | exact .inl ⟨rfl, rfl⟩ | exact .inr ⟨⟨_, _, rfl⟩, rfl⟩))
    exact .nil _
  · exact keepOK_of hk hn rfl
  refine WPA.cond rfl (fun hc1 => ?_) (fun hc1 => ?_)
  · apply WPA.draw mixed
    · apply Trace.pu [] (.build zo24 pl24 (.nil _ _) rfl)
      apply Trace.pu [] (.move (.plain rfl))
      apply Trace.pu [] (.assertIs Try.underlying28 (by intro m h; cases h) (.plain rfl))
      first | apply Trace.storeD ty24 (.plain rfl) (.plain rfl) rfl rfl (by simp [hl, spliceL]) (by simp [AV.oneB, single]) (by simp [hl, spliceL]) (spliceL_all (by simp [hl, spliceL])) | apply Trace.storeD ty24 (.plain rfl) (.plain rfl) rfl rfl (by simp [hl, spliceL]) (by simp [AV.oneB, single]) (by simp [hl, spliceL]) rfl | apply Trace.storeDA ty24 (.plain rfl) (.plain rfl) rfl rfl (by simp [hl, spliceL]) (by simp [AV.oneB, single]) (by simp [hl, spliceL]) rfl | apply Trace.storeLoc ty24 (.plain rfl) (.plain rfl) rfl rfl (by simp [hl, spliceL]) (by simp [AV.oneB, single]) (by simp) rfl | apply Trace.storeRow ty24 (.plain rfl) (.plain rfl) rfl rfl rfl rfl (by decide) (by simp [AV.oneB, single]) rfl (by omega)
      first | apply Trace.storeD ty28 (.plain rfl) (.plain rfl) rfl rfl rfl (by simp [AV.oneB, single]) (Nat.le_of_ble_eq_true rfl) rfl | apply Trace.storeDA ty28 (.plain rfl) (.plain rfl) rfl rfl rfl (by simp [AV.oneB, single]) (Nat.le_of_ble_eq_true rfl) rfl | apply Trace.storeLoc ty28 (.plain rfl) (.plain rfl) rfl rfl rfl (by simp [AV.oneB, single]) (Nat.le_of_ble_eq_true rfl) rfl | apply Trace.storeRow ty28 (.plain rfl) (.plain rfl) rfl rfl rfl rfl (by decide) (by simp [AV.oneB, single]) rfl (by omega)
      exact .nil _
    · rfl
    · exact keepOK_of hk hn rfl
    exact ⟨.inl rfl, blks_of (.cons rfl (.cons rfl .nil))⟩
  · cases hc1

/-- What Decode hands back. -/
def dval (xs : List Int) : Val := (decoded xs).getD Val.none
def derr (xs : List Int) : Int := match decoded xs with
  | some _ => 0
  | none => 10
theorem bytesD_rest (xs : List Int) : bytesD xs = restD xs 0 xs.length := by simp [bytesD, rowsD, restD, Col.at]
theorem zeros_le : DLes [.v (.int .i64 0), .v (.int .i64 0), .v (.string ⟨#[]⟩), .v (.slice none 0 0)] Val.none.cells := .same (.same (.same (.rows .nil)))
theorem tupLe {x x' : AV} {r : List AV} (h : ∀ V M v, Den V M x v → Den V M x' v) : ∀ V M v, Den V M (.tup (x :: r)) v → Den V M (.tup (x' :: r)) v := by
  intro V M v hd
  cases hd with
  | tup _ vs hl hv =>
    refine .tup _ vs (by simpa using hl) fun j y z hy hz => ?_
    cases j with
    | zero =>
      simp only [List.getElem?_cons_zero, Option.some.injEq] at hy
      subst hy
      exact h _ _ _ (hv 0 x z rfl hz)
    | succ j => exact hv (j + 1) y z hy hz
theorem closes18_bad (ds : List D) (e : Int) (hl : ds.length = 4) {xs : List Int} (h : decoded xs = none) : Closes Try.prog 31 2 3 2 3 [.cell 2 24, .cell 3 28] (.tup ([.agg (dval xs).cells, .v (.int .i64 (derr xs))].map .d)) (.panicking badCode) [(bk 2, .blk (.data ds)), (bk 3, .blk (.data [.v (.int .i64 e)]))] := by
  refine ⟨by simp, _, _, rfl, rfl, rfl, (by intro p hp; simp at hp; rcases hp with rfl | rfl <;> exact ⟨_, rfl⟩), caught31 ds e hl, _, (.cons (.cellD rfl rfl ty24 rfl) (.cons (.cellD1 rfl rfl ty28 rfl) .nil)), _, rfl, ?_⟩
  have e1 : dval xs = Val.none := by simp [dval, h]
  have e2 : derr xs = 10 := by simp [derr, h]
  rw [e1, e2]
  exact tupLe (den_aggLe zeros_le)
theorem ok18 (xs : List Int) (hx : xs.length ≤ 1000000) (hb : Bytes xs) {v : Val} (h : decoded xs = some v) : FnSpec Try.prog 18 [.d (bytesD xs)] [] (.tup ([.agg (dval xs).cells, .v (.int .i64 (derr xs))].map .d)) [] [] := by
  obtain ⟨q, hv, hq⟩ : ∃ q, rval xs 16 0 = some (v, q) ∧ q = xs.length := by
    unfold decoded at h
    split at h
    · rename_i w q hw
      split at h
      · rename_i hq
        simp only [Option.some.injEq] at h
        subst h
        exact ⟨q, hw, hq⟩
      · cases h
    · cases h
  have e1 : dval xs = v := by simp [dval, h]
  have e2 : derr xs = 0 := by simp [derr, h]
  rw [bytesD_rest]
  refine fnSpec_of_defer (g := 31) (a := 2) (b := 3) (t := 5) (la := 2) (lb := 3) (rs := [.cell 2 24, .cell 3 28]) (ro := {}) (S1 := [(sl 0, .av (.d (restD xs 0 xs.length))), (sl 2, .av (.loc 2 0)), (sl 3, .av (.loc 3 0)), (bk 2, .blk (.data [.v (.int .i64 0), .v (.int .i64 0), .v (.string ⟨#[]⟩), .v (.slice none 0 0)])), (bk 3, .blk (.data [.v (.int .i64 0)]))]) Try.func18 rfl rfl (Nat.le_of_ble_eq_true rfl) (by decide) rfl en31 (fun E hk hn => ?_) rfl rfl rfl (fun E hk hn => ?_) rfl ?_
  · apply WPA.region
    · apply Trace.alloc 2 [] (.data _) zo24 (cellsAs_data _) rfl
      apply Trace.alloc 3 [] (.data _) zo28 (cellsAs_data _) rfl
      exact .nil _
    · exact keepOK_of hk hn rfl
    exact ⟨rfl, St.le_cons rfl (St.le_cons rfl (St.le_cons rfl (St.le_cons rfl (St.le_cons rfl (St.le_nil _)))))⟩
  · apply WPA.seq
    apply WPA.region
    · apply Trace.pu [] (.move (.plain rfl))
      apply Trace.pu [] (.build zo58 pl58 (.cons (.plain rfl) rfl rfl (Nat.le_of_ble_eq_true rfl) (.nil _ _)) rfl)
      apply Trace.boxD 8 [] (.plain rfl) rfl rfl
      apply Trace.pu [] (.assign (.plain rfl))
      exact .nil _
    · exact keepOK_of hk hn rfl
    apply WPA.seq
    apply WPA.region
    · apply Trace.pu [] (.move (.plain rfl))
      apply Trace.cb [] [bk 8] (callArgs0 (.cons (.plain rfl) (.cons (.plain rfl) .nil))) ((spec32 xs hx hb 16 (by decide) 0 (Nat.zero_le _) v q hv).as 0 8 rfl rfl rfl rfl rfl rfl rfl) en32 (.cons rfl .nil) rfl rfl
      first | apply Trace.storeD ty24 (.plain rfl) (.plain rfl) rfl rfl (by simp [Val.cells_length]) (by first | exact Val.cells_one _ | simp [AV.oneB, single]) (by simp [Val.cells_length]) (spliceL_all (by simp [Val.cells_length])) | apply Trace.storeD ty24 (.plain rfl) (.plain rfl) rfl rfl (by simp [Val.cells_length]) (by first | exact Val.cells_one _ | simp [AV.oneB, single]) (by simp [Val.cells_length]) rfl | apply Trace.storeDA ty24 (.plain rfl) (.plain rfl) rfl rfl (by simp [Val.cells_length]) (by simp [AV.oneB, single]) (by simp [Val.cells_length]) rfl | apply Trace.storeLoc ty24 (.plain rfl) (.plain rfl) rfl rfl (by simp [Val.cells_length]) (by simp [AV.oneB, single]) (by simp) rfl | apply Trace.storeRow ty24 (.plain rfl) (.plain rfl) rfl rfl rfl rfl (by decide) (by simp [AV.oneB, single]) rfl (by omega)
      exact .nil _
    · exact keepOK_of hk hn rfl
    apply WPA.seq
    apply WPA.region
    · apply Trace.pu [] (.move (.plain rfl))
      apply Trace.pu [] (.move (.plain rfl))
      apply Trace.pu [] (.nilCheck (.plain rfl) rfl)
      apply Trace.pu [] (.fieldAddr fl58_0 (.plain rfl) rfl)
      apply Trace.pu [_] (.loadLoc1D ty27 (.plain rfl) rfl rfl)
      apply Trace.pu [] (.len rfl Try.underlying27 (.plain rfl) rfl)
      apply Trace.pu [] ((Pure.cmp (.plain rfl) (.plain rfl) rfl).to (y := bv true) (by simp; omega))
      apply Trace.ct (ds := []) (callArgs0 (.cons (.plain rfl) (.cons (.plain rfl) .nil))) (spec33 8) en33
      exact .nil _
    · exact keepOK_of hk hn rfl
    apply WPA.seq
    apply WPA.region
    · first | apply Trace.pu [_] (.loadAllD ty24 (.plain rfl) rfl (by simp [Val.cells_length])) | apply Trace.pu [_] (.loadLocD ty24 (.plain rfl) rfl (fun _ => by simp [Val.cells_length])) | apply Trace.pu [_] (.loadLoc ty24 (.plain rfl) rfl (fun _ => Nat.le_of_ble_eq_true rfl)) | apply Trace.pu [] (.loadRp ty24 (.plain rfl) (fun _ => by decide)) | apply Trace.pu [_] (.loadCol ty24 (.plain rfl) rfl rfl (fun _ => by decide) (fun _ => by omega)) | apply Trace.pu [_] (.loadArr ty24 (.plain rfl) rfl)
      first | apply Trace.storeD ty24 (.plain rfl) (.plain rfl) rfl rfl (by simp [Val.cells_length]) (by first | exact Val.cells_one _ | simp [AV.oneB, single]) (by simp [Val.cells_length]) (spliceL_all (by simp [Val.cells_length])) | apply Trace.storeD ty24 (.plain rfl) (.plain rfl) rfl rfl (by simp [Val.cells_length]) (by first | exact Val.cells_one _ | simp [AV.oneB, single]) (by simp [Val.cells_length]) rfl | apply Trace.storeDA ty24 (.plain rfl) (.plain rfl) rfl rfl (by simp [Val.cells_length]) (by simp [AV.oneB, single]) (by simp [Val.cells_length]) rfl | apply Trace.storeLoc ty24 (.plain rfl) (.plain rfl) rfl rfl (by simp [Val.cells_length]) (by simp [AV.oneB, single]) (by simp) rfl | apply Trace.storeRow ty24 (.plain rfl) (.plain rfl) rfl rfl rfl rfl (by decide) (by simp [AV.oneB, single]) rfl (by omega)
      first | apply Trace.storeD ty28 (.plain rfl) (.plain rfl) rfl rfl rfl (by simp [AV.oneB, single]) (Nat.le_of_ble_eq_true rfl) rfl | apply Trace.storeDA ty28 (.plain rfl) (.plain rfl) rfl rfl rfl (by simp [AV.oneB, single]) (Nat.le_of_ble_eq_true rfl) rfl | apply Trace.storeLoc ty28 (.plain rfl) (.plain rfl) rfl rfl rfl (by simp [AV.oneB, single]) (Nat.le_of_ble_eq_true rfl) rfl | apply Trace.storeRow ty28 (.plain rfl) (.plain rfl) rfl rfl rfl rfl (by decide) (by simp [AV.oneB, single]) rfl (by omega)
      exact .nil _
    · exact keepOK_of hk hn rfl
    apply WPA.ret
    refine ⟨.inr rfl, _, St.le_cons rfl (St.le_cons rfl (St.le_cons (n := bk 2) (c := .blk (.data v.cells)) ?_ (St.le_cons (n := bk 3) (c := .blk (.data [.v (.int .i64 0)])) rfl (St.le_nil _)))), by simp, _, _, rfl, rfl, rfl, ?_, calm31 (.data v.cells) (.data [.v (.int .i64 0)]), _, (.cons (.cellD rfl rfl ty24 (by rw [Val.cells_length])) (.cons (.cellD1 rfl rfl ty28 rfl) .nil)), _, rfl, ?_⟩
    · rfl
    · intro p hp; simp at hp; rcases hp with rfl | rfl <;> exact ⟨_, rfl⟩
    · rw [e1, e2]; exact fun _ _ _ h => h
  · intro y hy; cases hy
theorem bad18a (xs : List Int) (hx : xs.length ≤ 1000000) (hb : Bytes xs) (h : rval xs 16 0 = none) : FnSpec Try.prog 18 [.d (bytesD xs)] [] (.tup ([.agg (dval xs).cells, .v (.int .i64 (derr xs))].map .d)) [] [] := by
  have hd : decoded xs = none := by simp [decoded, h]
  rw [bytesD_rest]
  refine fnSpec_of_defer (g := 31) (a := 2) (b := 3) (t := 5) (la := 2) (lb := 3) (rs := [.cell 2 24, .cell 3 28]) (ro := { pan := some (badCode, [(sl 2, .av (.loc 2 0)), (sl 3, .av (.loc 3 0)), (bk 2, .blk (.data [.v (.int .i64 0), .v (.int .i64 0), .v (.string ⟨#[]⟩), .v (.slice none 0 0)])), (bk 3, .blk (.data [.v (.int .i64 0)]))]) }) (S1 := [(sl 0, .av (.d (restD xs 0 xs.length))), (sl 2, .av (.loc 2 0)), (sl 3, .av (.loc 3 0)), (bk 2, .blk (.data [.v (.int .i64 0), .v (.int .i64 0), .v (.string ⟨#[]⟩), .v (.slice none 0 0)])), (bk 3, .blk (.data [.v (.int .i64 0)]))]) Try.func18 rfl rfl (Nat.le_of_ble_eq_true rfl) (by decide) rfl en31 (fun E hk hn => ?_) rfl rfl rfl (fun E hk hn => ?_) rfl ?_
  · apply WPA.region
    · apply Trace.alloc 2 [] (.data _) zo24 (cellsAs_data _) rfl
      apply Trace.alloc 3 [] (.data _) zo28 (cellsAs_data _) rfl
      exact .nil _
    · exact keepOK_of hk hn rfl
    exact ⟨rfl, St.le_cons rfl (St.le_cons rfl (St.le_cons rfl (St.le_cons rfl (St.le_cons rfl (St.le_nil _)))))⟩
  · apply WPA.seq
    apply WPA.region
    · apply Trace.pu [] (.move (.plain rfl))
      apply Trace.pu [] (.build zo58 pl58 (.cons (.plain rfl) rfl rfl (Nat.le_of_ble_eq_true rfl) (.nil _ _)) rfl)
      apply Trace.boxD 8 [] (.plain rfl) rfl rfl
      apply Trace.pu [] (.assign (.plain rfl))
      exact .nil _
    · exact keepOK_of hk hn rfl
    apply WPA.seq
    skip
    · apply WPA.regionX 10
      · apply Trace.pu [] (.move (.plain rfl))
        apply Trace.cx 10 (callArgs0 (.cons (.plain rfl) (.cons (.plain rfl) .nil))) (PSpec.as 0 8 (panic32 xs hx hb 16 (by decide) 0 (Nat.zero_le _) h) rfl rfl rfl) en32 (.cons rfl .nil) (.cons rfl (.cons rfl (.cons rfl (.cons rfl .nil)))) rfl rfl
        apply Trace.bot 10 rfl
        exact .nil _
      · exact keepOK_of hk hn rfl
      · rfl
  · intro y hy; simp only [Option.some.injEq] at hy; subst hy; exact ⟨_, rfl, closes18_bad _ 0 rfl hd⟩
theorem bad18b (xs : List Int) (hx : xs.length ≤ 1000000) (hb : Bytes xs) {v : Val} {q : Nat} (hv : rval xs 16 0 = some (v, q)) (hq : q ≠ xs.length) : FnSpec Try.prog 18 [.d (bytesD xs)] [] (.tup ([.agg (dval xs).cells, .v (.int .i64 (derr xs))].map .d)) [] [] := by
  have hd : decoded xs = none := by simp [decoded, hv, hq]
  have hle := (rval_sound hb (by omega) _ _ _ _ hv).le
  rw [bytesD_rest]
  refine fnSpec_of_defer (g := 31) (a := 2) (b := 3) (t := 5) (la := 2) (lb := 3) (rs := [.cell 2 24, .cell 3 28]) (ro := { pan := some (badCode, [(sl 2, .av (.loc 2 0)), (sl 3, .av (.loc 3 0)), (bk 2, .blk (.data v.cells)), (bk 3, .blk (.data [.v (.int .i64 0)]))]) }) (S1 := [(sl 0, .av (.d (restD xs 0 xs.length))), (sl 2, .av (.loc 2 0)), (sl 3, .av (.loc 3 0)), (bk 2, .blk (.data [.v (.int .i64 0), .v (.int .i64 0), .v (.string ⟨#[]⟩), .v (.slice none 0 0)])), (bk 3, .blk (.data [.v (.int .i64 0)]))]) Try.func18 rfl rfl (Nat.le_of_ble_eq_true rfl) (by decide) rfl en31 (fun E hk hn => ?_) rfl rfl rfl (fun E hk hn => ?_) rfl ?_
  · apply WPA.region
    · apply Trace.alloc 2 [] (.data _) zo24 (cellsAs_data _) rfl
      apply Trace.alloc 3 [] (.data _) zo28 (cellsAs_data _) rfl
      exact .nil _
    · exact keepOK_of hk hn rfl
    exact ⟨rfl, St.le_cons rfl (St.le_cons rfl (St.le_cons rfl (St.le_cons rfl (St.le_cons rfl (St.le_nil _)))))⟩
  · apply WPA.seq
    apply WPA.region
    · apply Trace.pu [] (.move (.plain rfl))
      apply Trace.pu [] (.build zo58 pl58 (.cons (.plain rfl) rfl rfl (Nat.le_of_ble_eq_true rfl) (.nil _ _)) rfl)
      apply Trace.boxD 8 [] (.plain rfl) rfl rfl
      apply Trace.pu [] (.assign (.plain rfl))
      exact .nil _
    · exact keepOK_of hk hn rfl
    apply WPA.seq
    apply WPA.region
    · apply Trace.pu [] (.move (.plain rfl))
      apply Trace.cb [] [bk 8] (callArgs0 (.cons (.plain rfl) (.cons (.plain rfl) .nil))) ((spec32 xs hx hb 16 (by decide) 0 (Nat.zero_le _) v q hv).as 0 8 rfl rfl rfl rfl rfl rfl rfl) en32 (.cons rfl .nil) rfl rfl
      first | apply Trace.storeD ty24 (.plain rfl) (.plain rfl) rfl rfl (by simp [Val.cells_length]) (by first | exact Val.cells_one _ | simp [AV.oneB, single]) (by simp [Val.cells_length]) (spliceL_all (by simp [Val.cells_length])) | apply Trace.storeD ty24 (.plain rfl) (.plain rfl) rfl rfl (by simp [Val.cells_length]) (by first | exact Val.cells_one _ | simp [AV.oneB, single]) (by simp [Val.cells_length]) rfl | apply Trace.storeDA ty24 (.plain rfl) (.plain rfl) rfl rfl (by simp [Val.cells_length]) (by simp [AV.oneB, single]) (by simp [Val.cells_length]) rfl | apply Trace.storeLoc ty24 (.plain rfl) (.plain rfl) rfl rfl (by simp [Val.cells_length]) (by simp [AV.oneB, single]) (by simp) rfl | apply Trace.storeRow ty24 (.plain rfl) (.plain rfl) rfl rfl rfl rfl (by decide) (by simp [AV.oneB, single]) rfl (by omega)
      exact .nil _
    · exact keepOK_of hk hn rfl
    apply WPA.seq
    skip
    · apply WPA.regionX 18
      · apply Trace.pu [] (.move (.plain rfl))
        apply Trace.pu [] (.move (.plain rfl))
        apply Trace.pu [] (.nilCheck (.plain rfl) rfl)
        apply Trace.pu [] (.fieldAddr fl58_0 (.plain rfl) rfl)
        apply Trace.pu [_] (.loadLoc1D ty27 (.plain rfl) rfl rfl)
        apply Trace.pu [] (.len rfl Try.underlying27 (.plain rfl) rfl)
        apply Trace.pu [] ((Pure.cmp (.plain rfl) (.plain rfl) rfl).to (y := bv false) (by simp; omega))
        apply Trace.cx 18 (callArgs0 (.cons (.plain rfl) (.cons (.plain rfl) .nil))) (panic33 8) en33 .nil (.cons rfl (.cons rfl (.cons rfl (.cons rfl .nil)))) rfl rfl
        exact .nil _
      · exact keepOK_of hk hn rfl
      · rfl
  · intro y hy; simp only [Option.some.injEq] at hy; subst hy; exact ⟨_, rfl, closes18_bad _ 0 (Val.cells_length v) hd⟩

theorem spec18 (xs : List Int) (hx : xs.length ≤ 1000000) (hb : Bytes xs) : FnSpec Try.prog 18 [.d (bytesD xs)] [] (.tup ([.agg (dval xs).cells, .v (.int .i64 (derr xs))].map .d)) [] [] := by
  cases h : decoded xs with
  | some v => exact ok18 xs hx hb h
  | none =>
    cases hv : rval xs 16 0 with
    | none => exact bad18a xs hx hb hv
    | some y =>
      obtain ⟨v, q⟩ := y
      refine bad18b xs hx hb hv fun hq => ?_
      simp [decoded, hv, hq] at h

end Go.Proofs.Ytlccnbnnlfbfjaa

