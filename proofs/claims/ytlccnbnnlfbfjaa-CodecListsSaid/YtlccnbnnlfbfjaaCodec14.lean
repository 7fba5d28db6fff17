/- The examples of the chapter; small values. -/
import Derived.Test.YtlccnbnnlfbfjaaCodec13
import Derived.Test.YtlccnbnnlfbfjaaCodec7
namespace Go.Proofs.Ytlccnbnnlfbfjaa
open Go
set_option linter.unusedVariables false
set_option linter.unusedSimpArgs false
set_option maxRecDepth 10000

theorem FnSpec.argLe {P : Program} {f : FuncId} {A1 A2 : List AV} {x x' : AV} {Bs Bs' : St} {res : AV} {keep : List Nat} (h : FnSpec P f (A1 ++ x' :: A2) Bs res Bs' keep) (hx : ∀ V M v, Den V M x v → Den V M x' v) : FnSpec P f (A1 ++ x :: A2) Bs res Bs' keep := by
  intro V M w passed vs hw hd
  refine h V M w passed vs hw ⟨by have := hd.len; simpa using this, fun j y z hy hz => ?_⟩
  by_cases hj : j < A1.length
  · rw [List.getElem?_append_left hj] at hy
    exact hd.at' j y z (by rw [List.getElem?_append_left hj]; exact hy) hz
  · rw [List.getElem?_append_right (by omega)] at hy
    cases hj' : j - A1.length with
    | zero =>
      rw [hj'] at hy
      simp only [List.getElem?_cons_zero, Option.some.injEq] at hy
      subst hy
      exact hx _ _ _ (hd.at' j x z (by rw [List.getElem?_append_right (by omega), hj']; rfl) hz)
    | succ k =>
      rw [hj'] at hy
      exact hd.at' j y z (by rw [List.getElem?_append_right (by omega), hj']; exact hy) hz

def ab : ByteArray := ⟨#[97, 98]⟩
def ex1 : Val := .mk 1 (-3) ⟨#[]⟩ []
def exl : List Val := [.mk 1 100 ⟨#[]⟩ [], .mk 2 0 ab []]
def ex2 : Val := .mk 3 0 ⟨#[]⟩ exl
theorem ex1_sz : ex1.Sz := .mk _ _ _ _ (by decide) (by decide) (by decide) (by decide) (by simp)
theorem ex2_sz : ex2.Sz := .mk _ _ _ _ (by decide) (by decide) (by decide) (by decide) (by
  intro x hx
  simp [exl] at hx
  rcases hx with rfl | rfl <;> exact .mk _ _ _ _ (by decide) (by decide) (by decide) (by decide) (by simp))
theorem ex1_enc : ex1.encoded = [1, 5] ∧ ex1.check = 0 := by
  have h : ex1.check = 0 := by decide
  refine ⟨?_, h⟩
  rw [Val.encoded, if_pos h]
  show (Val.mk 1 (-3) ⟨#[]⟩ []).enc = _
  rw [Val.enc_int, show zig (-3) = 5 from rfl, dig_lt (by decide)]
  rfl
theorem ex2_enc0 : ex2.enc = [3, 2, 1, 200, 1, 2, 2, 97, 98] := by
  show (Val.mk 3 0 ⟨#[]⟩ exl).enc = _
  rw [Val.enc_list]
  simp only [exl, List.length_cons, List.length_nil, Val.encs]
  rw [Val.enc_int, Val.enc_text, show zig 100 = 200 from rfl, dig_ge (u := 200) (by decide), dig_lt (u := 200 / 128) (by decide), dig_lt (u := 0 + 1 + 1) (by decide), dig_lt (u := ab.size) (by decide)]
  rfl
theorem ex2_ok : ex2.formed = true ∧ ex2.depth = 1 := ⟨by decide, by decide⟩
theorem ex2_enc : ex2.encoded = [3, 2, 1, 200, 1, 2, 2, 97, 98] ∧ ex2.check = 0 := by
  have h : ex2.check = 0 := by decide
  exact ⟨by rw [Val.encoded, if_pos h, ex2_enc0], h⟩
theorem ex2_dec : dval [3, 2, 1, 200, 1, 2, 2, 97, 98] = ex2 ∧ derr [3, 2, 1, 200, 1, 2, 2, 97, 98] = 0 := by
  have h : decoded [3, 2, 1, 200, 1, 2, 2, 97, 98] = some ex2 := by
    rw [← ex2_enc0]
    exact decoded_complete ex2_ok.1 (by rw [ex2_ok.2]; decide) ex2_sz
  simp [dval, derr, h]
theorem strD_eq (s : ByteArray) : strD s = bytesD (bytesI s) := by
  have e : ∀ i, (s.data.toList.map fun b => (b.toNat : Int)).getD i 0 = ((s.data.toList.getD i 0).toNat : Int) := fun i => by
    cases h : s.data.toList[i]? with
    | none => simp only [List.getD_eq_getElem?_getD, List.getElem?_map, h]; rfl
    | some b => simp only [List.getD_eq_getElem?_getD, List.getElem?_map, h]; rfl
  unfold strD bytesD rowsD
  rw [bytesI_length]
  congr 1
  funext i
  simp only [List.map_cons, List.map_nil, Col.at, bytesI, e]
def bads : List ByteArray := [⟨#[]⟩, ⟨#[1, 128, 0]⟩, ⟨#[1, 5, 0]⟩, ⟨#[2, 3, 97]⟩]
theorem bads_dec : ∀ s ∈ bads, derr (bytesI s) = 10 ∧ (bytesI s).length ≤ 1000000 := by
  intro s hs
  simp [bads] at hs
  rcases hs with rfl | rfl | rfl | rfl <;> exact ⟨by decide +kernel, by decide⟩
theorem s12a : FnSpec Try.prog 12 [ex1.av] [] (.tup ([bytesD [1, 5], .v (.int .i64 0)].map .d)) [] [] := by
  have := spec12 ex1 ex1_sz (by decide) (by rw [ex1_enc.1]; decide)
  rwa [ex1_enc.1, ex1_enc.2] at this
theorem s12b : FnSpec Try.prog 12 [ex2.av] [] (.tup ([bytesD [3, 2, 1, 200, 1, 2, 2, 97, 98], .v (.int .i64 0)].map .d)) [] [] := by
  have := spec12 ex2 ex2_sz (by rw [ex2_ok.2]; decide) (by rw [ex2_enc.1]; decide)
  rwa [ex2_enc.1, ex2_enc.2] at this
theorem s14b : FnSpec Try.prog 14 [ex2.av] [] (.tup ([.v (.int .i64 9), .v (.int .i64 0)].map .d)) [] [] := by
  have := spec14 ex2 ex2_sz (by rw [ex2_ok.2]; decide) (by rw [ex2_enc.1]; decide)
  rwa [ex2_enc.1, ex2_enc.2] at this
theorem s18b : FnSpec Try.prog 18 [.d (bytesD [3, 2, 1, 200, 1, 2, 2, 97, 98])] [] (.tup ([.agg ex2.cells, .v (.int .i64 0)].map .d)) [] [] := by
  have := spec18 [3, 2, 1, 200, 1, 2, 2, 97, 98] (by decide) (by intro x hx; simp at hx; omega)
  rwa [ex2_dec.1, ex2_dec.2] at this
/-- soundpost/soundpostlaw01.sane -/
theorem spec10  : FnSpec Try.prog 10 [] [] (bv true) [] [] := by
  refine fnSpec_of (rs := [.tmp 0]) Try.func10 rfl rfl (Nat.le_of_ble_eq_true rfl) (by simp [St.get]) fun E hk hn => ?_
  apply WPA.seq
  apply WPA.region
  · apply Trace.pu [] (.assign (.plain rfl))
    exact .nil _
  · exact keepOK_of hk hn rfl
  apply WPA.seq
  apply WPA.region
  · apply Trace.cu (callArgs0 (.cons (.plain rfl) .nil)) (spec23 (-3)) en23
    apply Trace.ct (callArgs0 (.cons (.plain rfl) .nil)) s12a en12
    apply Trace.pu [] (.move (.plain rfl))
    apply Trace.pu [] (.extract (.plain rfl) rfl)
    apply Trace.pu [] (.extract (.plain rfl) rfl)
    apply Trace.pu [] (.assign (.plain rfl))
    apply Trace.pu [] (.assign (.plain rfl))
    exact .nil _
  · exact keepOK_of hk hn rfl
  apply WPA.seq
  apply WPA.region
  · apply Trace.cu (callArgs0 (.cons (.plain rfl) .nil)) (spec23 100) en23
    apply Trace.cu (callArgs0 (.cons (.plain rfl) .nil)) (spec24 ab) en24
    apply Trace.buildRows (g := Val.row exl) so22 zo24 rfl (by decide) (by decide) (.cons (.plain rfl) rfl rfl (Nat.le_of_ble_eq_true rfl) (.cons (.plain rfl) rfl rfl (Nat.le_of_ble_eq_true rfl) (.nil _ _))) rfl (fun i hi => by rcases (by omega : i = 0 ∨ i = 1) with rfl | rfl <;> rfl)
    apply Trace.cu (callArgs0 (.cons (.plain rfl) .nil)) (spec22 exl) en22
    apply Trace.alloc 3 [] (.data _) zo24 (cellsAs_data _) rfl
    first | apply Trace.storeD ty24 (.plain rfl) (.plain rfl) rfl rfl (by simp [Val.cells_length]) (by first | exact Val.cells_one _ | simp [AV.oneB, single]) (by simp [Val.cells_length]) (spliceL_all (by simp [Val.cells_length])) | apply Trace.storeD ty24 (.plain rfl) (.plain rfl) rfl rfl (by simp [Val.cells_length]) (by first | exact Val.cells_one _ | simp [AV.oneB, single]) (by simp [Val.cells_length]) rfl | apply Trace.storeDA ty24 (.plain rfl) (.plain rfl) rfl rfl (by simp [Val.cells_length]) (by simp [AV.oneB, single]) (by simp [Val.cells_length]) rfl | apply Trace.storeLoc ty24 (.plain rfl) (.plain rfl) rfl rfl (by simp [Val.cells_length]) (by simp [AV.oneB, single]) (by simp) rfl | apply Trace.storeRow ty24 (.plain rfl) (.plain rfl) rfl rfl rfl rfl (by decide) (by simp [AV.oneB, single]) rfl (by omega)
    exact .nil _
  · exact keepOK_of hk hn rfl
  apply WPA.seq
  apply WPA.region
  · apply Trace.pu [_] ((Pure.loadAllD ty24 (.plain rfl) rfl (by simp [Val.cells_length])).to (y := ex2.av) rfl)
    apply Trace.ct (callArgs0 (.cons (.plain rfl) .nil)) s12b en12
    apply Trace.pu [] (.move (.plain rfl))
    apply Trace.pu [] (.extract (.plain rfl) rfl)
    apply Trace.pu [] (.extract (.plain rfl) rfl)
    apply Trace.pu [] (.assign (.plain rfl))
    apply Trace.pu [] (.assign (.plain rfl))
    exact .nil _
  · exact keepOK_of hk hn rfl
  apply WPA.seq
  apply WPA.region
  · apply Trace.pu [] (.move (.plain rfl))
    apply Trace.ct (callArgs0 (.cons (.plain rfl) .nil)) s18b en18
    apply Trace.pu [] (.move (.plain rfl))
    apply Trace.pu [] (.extract (.plain rfl) rfl)
    apply Trace.pu [] (.extract (.plain rfl) rfl)
    apply Trace.alloc 6 [] (.data _) zo24 (cellsAs_data _) rfl
    first | apply Trace.storeD ty24 (.plain rfl) (.plain rfl) rfl rfl (by simp [Val.cells_length]) (by first | exact Val.cells_one _ | simp [AV.oneB, single]) (by simp [Val.cells_length]) (spliceL_all (by simp [Val.cells_length])) | apply Trace.storeD ty24 (.plain rfl) (.plain rfl) rfl rfl (by simp [Val.cells_length]) (by first | exact Val.cells_one _ | simp [AV.oneB, single]) (by simp [Val.cells_length]) rfl | apply Trace.storeDA ty24 (.plain rfl) (.plain rfl) rfl rfl (by simp [Val.cells_length]) (by simp [AV.oneB, single]) (by simp [Val.cells_length]) rfl | apply Trace.storeLoc ty24 (.plain rfl) (.plain rfl) rfl rfl (by simp [Val.cells_length]) (by simp [AV.oneB, single]) (by simp) rfl | apply Trace.storeRow ty24 (.plain rfl) (.plain rfl) rfl rfl rfl rfl (by decide) (by simp [AV.oneB, single]) rfl (by omega)
    apply Trace.pu [] (.assign (.plain rfl))
    exact .nil _
  · exact keepOK_of hk hn rfl
  apply WPA.seq
  apply WPA.region
  · apply Trace.pu [_] ((Pure.loadAllD ty24 (.plain rfl) rfl (by simp [Val.cells_length])).to (y := ex2.av) rfl)
    apply Trace.ct (callArgs0 (.cons (.plain rfl) .nil)) s14b en14
    apply Trace.pu [] (.move (.plain rfl))
    apply Trace.pu [] (.extract (.plain rfl) rfl)
    apply Trace.pu [] (.extract (.plain rfl) rfl)
    apply Trace.pu [] (.assign (.plain rfl))
    apply Trace.pu [] (.assign (.plain rfl))
    exact .nil _
  · exact keepOK_of hk hn rfl
  apply WPA.seq
  apply WPA.seq
  apply WPA.region
  · apply Trace.pu [] (.move (.plain rfl))
    apply Trace.pu [] (.cmp (.plain rfl) (.plain rfl) rfl)
    apply Trace.pu [] (.move (.plain rfl))
    apply Trace.pg [] rfl (.move (.plain rfl))
    apply Trace.pg [] rfl (.strRows (xs := [1, 5]) bs27 Try.underlying9 (.gd rfl (fun h => h)) (fun _ => rfl) (fun _ i hi => rfl))
    apply Trace.pg [] rfl ((Pure.sne (.gd rfl (fun h => h)) (.plain rfl)).to (y := bv false) (congrArg (fun b => bv b) (by decide)))
    apply Trace.pu [] (.pick (.plain rfl) (.plain rfl) (.gd rfl (by simp)))
    apply Trace.pu [] (.move (.plain rfl))
    apply Trace.pg [] rfl (.move (.plain rfl))
    apply Trace.pg [] rfl (.cmp (.gd rfl (fun h => h)) (.plain rfl) rfl)
    apply Trace.pu [] (.pick (.plain rfl) (.plain rfl) (.gd rfl (by simp)))
    apply Trace.pu [] (.move (.plain rfl))
    apply Trace.pg [] rfl (.move (.plain rfl))
    apply Trace.pg [] rfl (.strRows (xs := [3, 2, 1, 200, 1, 2, 2, 97, 98]) bs27 Try.underlying9 (.gd rfl (fun h => h)) (fun _ => rfl) (fun _ i hi => rfl))
    apply Trace.pg [] rfl ((Pure.sne (.gd rfl (fun h => h)) (.plain rfl)).to (y := bv false) (congrArg (fun b => bv b) (by decide)))
    apply Trace.pu [] (.pick (.plain rfl) (.plain rfl) (.gd rfl (by simp)))
    apply Trace.pu [] (.move (.plain rfl))
    apply Trace.pg [] rfl (.move (.plain rfl))
    apply Trace.pg [] rfl (.cmp (.gd rfl (fun h => h)) (.plain rfl) rfl)
    apply Trace.pu [] (.pick (.plain rfl) (.plain rfl) (.gd rfl (by simp)))
    apply Trace.pu [] (.move (.plain rfl))
    apply Trace.pg [_] rfl ((Pure.loadAllD ty24 (.plain rfl) rfl (by simp [Val.cells_length])).to (y := ex2.av) rfl)
    apply Trace.pg [_] rfl ((Pure.loadAllD ty24 (.plain rfl) rfl (by simp [Val.cells_length])).to (y := ex2.av) rfl)
    apply Trace.cg rfl (callArgs0 (.cons (.gd rfl (fun h => h)) (.cons (.gd rfl (fun h => h)) .nil))) (fun h => spec21 ex2 ex2_sz ex2 ex2_sz) en21
    apply Trace.pg [] rfl ((Pure.not (.gd rfl (fun h => h))).to (y := bv false) (by rw [Val.same_refl]; rfl))
    apply Trace.pu [] (.pick (.plain rfl) (.plain rfl) (.gd rfl (by simp)))
    apply Trace.pu [] (.move (.plain rfl))
    apply Trace.pg [] rfl (.move (.plain rfl))
    apply Trace.pg [] rfl (.cmp (.gd rfl (fun h => h)) (.plain rfl) rfl)
    apply Trace.pu [] (.pick (.plain rfl) (.plain rfl) (.gd rfl (by simp)))
    apply Trace.pu [] (.move (.plain rfl))
    apply Trace.pg [] rfl (.move (.plain rfl))
    apply Trace.pg [] rfl (.cmp (.gd rfl (fun h => h)) (.plain rfl) rfl)
    apply Trace.pu [] (.pick (.plain rfl) (.plain rfl) (.gd rfl (by simp)))
    apply Trace.pu [] (.move (.plain rfl))
    apply Trace.cg rfl (callArgs0 (.cons (.plain rfl) .nil)) (fun h => spec24 ⟨#[]⟩) en24
    apply Trace.cg rfl (callArgs0 (.cons (.plain rfl) .nil)) (fun h => FnSpec.argLe (A1 := []) (A2 := []) (spec22 []) den_nilRows) en22
    apply Trace.cg rfl (callArgs0 (.cons (.gd rfl (fun h => h)) (.cons (.gd rfl (fun h => h)) .nil))) (fun h => spec21 (.mk 2 0 ⟨#[]⟩ []) (.mk _ _ _ _ (by decide) (by decide) (by decide) (by decide) (by simp)) (.mk 3 0 ⟨#[]⟩ []) (.mk _ _ _ _ (by decide) (by decide) (by decide) (by decide) (by simp))) en21
    apply Trace.pu [] ((Pure.pick (.plain rfl) (.plain rfl) (.gd rfl (by decide))).to (y := bv false) rfl)
    exact .nil _
  · exact keepOK_of hk hn rfl
  refine WPA.cond rfl (fun hc1 => ?_) (fun hc1 => ?_)
  · cases hc1
  · apply WPA.skip
    apply WPA.seq
    apply WPA.seq
    apply WPA.region
    · apply Trace.buildSlice 77 [] so45 zo9 rfl (by decide) (by decide) (.cons (.plain rfl) rfl rfl (Nat.le_of_ble_eq_true rfl) (.cons (.plain rfl) rfl rfl (Nat.le_of_ble_eq_true rfl) (.cons (.plain rfl) rfl rfl (Nat.le_of_ble_eq_true rfl) (.cons (.plain rfl) rfl rfl (Nat.le_of_ble_eq_true rfl) (.nil _ _))))) rfl rfl rfl
      apply Trace.pu [] (.len rfl Try.underlying45 (.plain rfl) rfl)
      apply Trace.pu [] (.move (.plain rfl))
      exact .nil _
    · exact keepOK_of hk hn rfl
    apply WPA.block
    refine WPA.loop (σ := Nat) (fun i => [(sl 77, .av (.own 77 4)), (sl 78, .av (iv .i64 4)), (sl 79, .av (iv .i64 i)), (bk 77, .blk (.app 1 4 [.ds (bads.map fun s => .v (.string s))]))]) (fun i => i ≤ 4) (fun i => 4 - i) 0
      (St.le_cons rfl (St.le_cons rfl (St.le_cons rfl (St.le_cons rfl (St.le_nil _))))) (by decide) fun i hi => ?_
    apply WPA.seq
    apply WPA.region
    · apply Trace.pu [] (.cmp (.plain rfl) (.plain rfl) rfl)
      exact .nil _
    · exact keepOK_of hk hn rfl
    apply WPA.seq
    refine WPA.cond rfl (fun hc2 => ?_) (fun hc2 => ?_)
    · have hlt : i < bads.length := by
        have : (i : Int) < 4 := by simpa using hc2
        show i < 4
        omega
      have hlt4 : i < 4 := hlt
      obtain ⟨hd1, hd2⟩ := bads_dec bads[i] (List.getElem_mem hlt)
      obtain ⟨s, hs⟩ : ∃ s, bads[i] = s := ⟨_, rfl⟩
      rw [hs] at hd1 hd2
      have h18 := spec18 (bytesI s) hd2 (bytesI_bytes s)
      rw [← strD_eq, hd1] at h18
      apply WPA.skip
      apply WPA.seq
      apply WPA.block
      apply WPA.seq
      apply WPA.region
      · apply Trace.pu [] (.indexOwn el45 (.plain rfl) (.plain rfl) (fun _ => ⟨by omega, by omega⟩))
        apply Trace.pu [_] ((Pure.loadCol1 ty9 (.plain rfl) rfl rfl rfl (fun _ => by omega)).to (y := sv s) (by show AV.d ((bads.map fun s => D.v (.string s)).getD ((i : Int)).toNat (.v .nilFunc)) = _; rw [show ((i : Int)).toNat = i by omega, List.getD_eq_getElem?_getD, List.getElem?_map, List.getElem?_eq_getElem hlt]; exact congrArg (fun s => sv s) hs))
        apply Trace.pu [] (.assign (.plain rfl))
        exact .nil _
      · exact keepOK_of hk hn rfl
      apply WPA.seq
      apply WPA.region
      · apply Trace.pu [] (.move (.plain rfl))
        apply Trace.strBytes bs27 Try.underlying9 (.plain rfl)
        apply Trace.ct (callArgs0 (.cons (.plain rfl) .nil)) h18 en18
        apply Trace.pu [] (.move (.plain rfl))
        apply Trace.pu [] (.extract (.plain rfl) rfl)
        apply Trace.pu [] (.extract (.plain rfl) rfl)
        apply Trace.alloc 12 [] (.data _) zo24 (cellsAs_data _) rfl
        first | apply Trace.storeD ty24 (.plain rfl) (.plain rfl) rfl rfl (by simp [Val.cells_length]) (by first | exact Val.cells_one _ | simp [AV.oneB, single]) (by simp [Val.cells_length]) (spliceL_all (by simp [Val.cells_length])) | apply Trace.storeD ty24 (.plain rfl) (.plain rfl) rfl rfl (by simp [Val.cells_length]) (by first | exact Val.cells_one _ | simp [AV.oneB, single]) (by simp [Val.cells_length]) rfl | apply Trace.storeDA ty24 (.plain rfl) (.plain rfl) rfl rfl (by simp [Val.cells_length]) (by simp [AV.oneB, single]) (by simp [Val.cells_length]) rfl | apply Trace.storeLoc ty24 (.plain rfl) (.plain rfl) rfl rfl (by simp [Val.cells_length]) (by simp [AV.oneB, single]) (by simp) rfl | apply Trace.storeRow ty24 (.plain rfl) (.plain rfl) rfl rfl rfl rfl (by decide) (by simp [AV.oneB, single]) rfl (by omega)
        apply Trace.pu [] (.assign (.plain rfl))
        exact .nil _
      · exact keepOK_of hk hn rfl
      apply WPA.seq
      apply WPA.region
      · apply Trace.pu [] (.move (.plain rfl))
        apply Trace.pu [] (.cmp (.plain rfl) (.plain rfl) rfl)
        exact .nil _
      · exact keepOK_of hk hn rfl
      refine WPA.cond rfl (fun hc3 => ?_) (fun hc3 => ?_)
      · cases hc3
      · apply WPA.skip
        apply WPA.region
        · apply Trace.pu [] (.arith (.plain rfl) (.plain rfl) rfl (fun _ => bd64 (by omega)))
          apply Trace.pu [] (.move (.plain rfl))
          exact .nil _
        · exact keepOK_of hk hn rfl
        exact ⟨i + 1, by show i + 1 ≤ 4; omega, by omega, St.le_cons rfl (St.le_cons rfl (St.le_cons (iv_eq (by omega)) (St.le_cons rfl (St.le_nil _))))⟩
    · apply WPA.exit
      apply WPA.seq
      apply WPA.region
      · apply Trace.pu [] (.build zo24 pl24 (.nil _ _) rfl)
        apply Trace.cu (callArgs0 (.cons (.plain rfl) .nil)) (FnSpec.argLe (A1 := []) (A2 := []) (spec16 Val.none (.mk _ _ _ _ (by decide) (by decide) (by decide) (by decide) (by simp)) (by decide)) (den_aggLe zeros_le)) en16
        apply Trace.pu [] (.cmp (.plain rfl) (.plain rfl) rfl)
        apply Trace.pu [] (.assign (.plain rfl))
        exact .nil _
      · exact keepOK_of hk hn rfl
      apply WPA.ret
      refine ⟨.inr rfl, ⟨_, (.cons (.tmp rfl) .nil), ?_⟩, by simp [St.get]⟩
      rfl

end Go.Proofs.Ytlccnbnnlfbfjaa

