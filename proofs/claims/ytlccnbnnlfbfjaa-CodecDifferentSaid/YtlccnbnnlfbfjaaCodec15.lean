/- The laws of codec: small values; Encode, Decode and Same against the specification. -/
import Derived.Test.YtlccnbnnlfbfjaaCodec14
namespace Go.Proofs.Ytlccnbnnlfbfjaa
open Go
set_option linter.unusedVariables false
set_option linter.unusedSimpArgs false
set_option maxRecDepth 10000

def Val.few (v : Val) : Bool := decide (v.count 20 ≤ 200)
theorem Val.few_bd {v : Val} (hz : v.Sz) (h : v.few = true) : v.enc.length ≤ 80000 ∧ v.depth ≤ 21 := by
  have h : v.count 20 ≤ 200 := by simpa [Val.few] using h
  have := Val.count_enc v hz 20 (by decide) (by omega)
  omega
theorem Val.encoded_le (v : Val) : v.encoded.length ≤ v.enc.length := by
  unfold Val.encoded; split <;> simp
theorem all_take {α : Type} (p : α → Bool) (l : List α) (i : Nat) (h : i < l.length) : (l.take (i + 1)).all p = ((l.take i).all p && p l[i]) := by
  rw [take_succ' l i h, List.all_append]; simp
theorem Val.row_one (v : Val) : ∀ i, i < 1 → (v.cells.drop (i * 4)).take 4 = Val.row [v] i := by
  intro i hi
  have : i = 0 := by omega
  subst this
  rcases v with ⟨k, n, s, l⟩
  rfl
theorem Val.row_two (v w : Val) : ∀ i, i < 2 → ((v.cells ++ w.cells).drop (i * 4)).take 4 = Val.row [v, w] i := by
  intro i hi
  rcases v with ⟨k, n, s, l⟩
  rcases w with ⟨k', n', s', l'⟩
  rcases (by omega : i = 0 ∨ i = 1) with rfl | rfl <;> rfl
theorem Val.none_sz : Val.none.Sz := .mk _ _ _ _ (by decide) (by decide) (by decide) (by decide) (by simp)
theorem dval_sz {xs : List Int} (hx : xs.length ≤ 1000000) (hb : Bytes xs) : (dval xs).Sz := by
  unfold dval
  cases h : decoded xs with
  | none => exact Val.none_sz
  | some v => exact (decoded_sound hb (by omega) h).2.2.1
/-- soundpost/soundpostlaw01.few -/
theorem spec11 (l : List Val) (hl : l.length ≤ 140737488355328) (hz : ∀ v ∈ l, v.Sz) : FnSpec Try.prog 11 [.d (.rows 4 l.length (Val.row l))] [] (bv (l.all Val.few)) [] [] := by
  refine fnSpec_of (rs := [.tmp 2]) Try.func11 rfl rfl (Nat.le_of_ble_eq_true rfl) (by simp [St.get]) fun E hk hn => ?_
  apply WPA.seq
  apply WPA.region
  · apply Trace.pu [] (.assign (.plain rfl))
    exact .nil _
  · exact keepOK_of hk hn rfl
  apply WPA.seq
  apply WPA.seq
  apply WPA.region
  · apply Trace.pu [] (.move (.plain rfl))
    apply Trace.pu [] (.len rfl Try.underlying22 (.plain rfl) rfl)
    apply Trace.pu [] (.move (.plain rfl))
    exact .nil _
  · exact keepOK_of hk hn rfl
  apply WPA.block
  refine WPA.loop (σ := Nat) (fun i => [(sl 5, .av (.d (.rows 4 l.length (Val.row l)))), (sl 6, .av (iv .i64 l.length)), (sl 7, .av (iv .i64 i))]) (fun i => i ≤ l.length ∧ (l.take i).all Val.few = true) (fun i => l.length - i) 0
    (St.le_cons rfl (St.le_cons rfl (St.le_cons rfl (St.le_nil _)))) ⟨Nat.zero_le _, rfl⟩ fun i hi => ?_
  apply WPA.seq
  apply WPA.region
  · apply Trace.pu [] (.cmp (.plain rfl) (.plain rfl) rfl)
    exact .nil _
  · exact keepOK_of hk hn rfl
  apply WPA.seq
  refine WPA.cond rfl (fun hc1 => ?_) (fun hc1 => ?_)
  · have hlt : i < l.length := by simpa using hc1
    obtain ⟨v, hv⟩ : ∃ v, l[i] = v := ⟨_, rfl⟩
    have hvz := hz v (hv ▸ List.getElem_mem hlt)
    have hat := all_take Val.few l i hlt
    rw [hv] at hat
    apply WPA.skip
    apply WPA.seq
    apply WPA.block
    apply WPA.seq
    apply WPA.region
    · first | apply Trace.pu [] (.indexRows el22 (.plain rfl) (.plain rfl) (fun _ => ⟨by omega, by omega⟩)) | apply Trace.pu [] (.indexOwn el22 (.plain rfl) (.plain rfl) (fun _ => ⟨by omega, by omega⟩)) | apply Trace.pu [] (.indexSl el22 (.plain rfl) (.plain rfl) (fun _ => ⟨by omega, by omega⟩))
      apply Trace.pu [] ((Pure.loadRp ty24 (.plain rfl) (fun _ => by rw [Val.row_length l _ (by omega)]; exact Nat.le_refl 4)).to (y := v.av) (by show AV.d (.agg ((Val.row l ((i : Int)).toNat).take 4)) = _; rw [Val.row_take l _ (by omega)]; simp [hv]))
      apply Trace.alloc 4 [] (.data _) zo24 (cellsAs_data _) rfl
      first | apply Trace.storeD ty24 (.plain rfl) (.plain rfl) rfl rfl (by simp [Val.cells_length]) (by first | exact Val.cells_one _ | simp [AV.oneB, single]) (by simp [Val.cells_length]) (spliceL_all (by simp [Val.cells_length])) | apply Trace.storeD ty24 (.plain rfl) (.plain rfl) rfl rfl (by simp [Val.cells_length]) (by first | exact Val.cells_one _ | simp [AV.oneB, single]) (by simp [Val.cells_length]) rfl | apply Trace.storeDA ty24 (.plain rfl) (.plain rfl) rfl rfl (by simp [Val.cells_length]) (by simp [AV.oneB, single]) (by simp [Val.cells_length]) rfl | apply Trace.storeLoc ty24 (.plain rfl) (.plain rfl) rfl rfl (by simp [Val.cells_length]) (by simp [AV.oneB, single]) (by simp) rfl | apply Trace.storeRow ty24 (.plain rfl) (.plain rfl) rfl rfl rfl rfl (by decide) (by simp [AV.oneB, single]) rfl (by omega)
      exact .nil _
    · exact keepOK_of hk hn rfl
    apply WPA.seq
    apply WPA.region
    · apply Trace.pu [_] ((Pure.loadAllD ty24 (.plain rfl) rfl (by simp [Val.cells_length])).to (y := (v).av) rfl)
      apply Trace.cu (callArgs0 (.cons (.plain rfl) (.cons (.plain rfl) .nil))) (spec25 v hvz 20 (by decide)) en25
      apply Trace.pu [] (.not (.plain rfl))
      exact .nil _
    · exact keepOK_of hk hn rfl
    refine WPA.cond rfl (fun hc2 => ?_) (fun hc2 => ?_)
    · have hb : v.few = false := by simpa [Val.few] using hc2
      apply WPA.seq
      apply WPA.region
      · apply Trace.pu [] (.assign (.plain rfl))
        exact .nil _
      · exact keepOK_of hk hn rfl
      apply WPA.ret
      refine ⟨.inr rfl, ⟨_, (.cons (.tmp rfl) .nil), ?_⟩, by simp [St.get]⟩
      have : l.all Val.few = false := by
        rw [List.all_eq_false]
        exact ⟨v, hv ▸ List.getElem_mem hlt, by simp [hb]⟩
      rw [this]; rfl
    · have hb : v.few = true := by simpa [Val.few] using hc2
      apply WPA.skip
      apply WPA.region
      · apply Trace.pu [] (.arith (.plain rfl) (.plain rfl) rfl (fun _ => bd64 (by omega)))
        apply Trace.pu [] (.move (.plain rfl))
        exact .nil _
      · exact keepOK_of hk hn rfl
      exact ⟨i + 1, ⟨by omega, by rw [hat, hi.2, hb]; rfl⟩, by omega, St.le_cons rfl (St.le_cons rfl (St.le_cons (iv_eq (by omega)) (St.le_nil _)))⟩
  · have hil : i = l.length := by
      have h1 := hi.1
      have : ¬ ((i : Int) < l.length) := by simpa using hc1
      omega
    have hs : l.all Val.few = true := by have := hi.2; rwa [hil, List.take_length] at this
    apply WPA.exit
    apply WPA.seq
    apply WPA.region
    · apply Trace.pu [] (.assign (.plain rfl))
      exact .nil _
    · exact keepOK_of hk hn rfl
    apply WPA.ret
    refine ⟨.inr rfl, ⟨_, (.cons (.tmp rfl) .nil), ?_⟩, by simp [St.get]⟩
    rw [hs]; rfl
/-- soundpost/soundpostlaw01.CodecEncodeSpec -/
theorem spec3 (v : Val) (hz : v.Sz) : FnSpec Try.prog 3 [v.av] [] (bv true) [] [] := by
  rcases v with ⟨k, n, s, l⟩
  refine fnSpec_of (rs := [.tmp 2]) Try.func3 rfl rfl (Nat.le_of_ble_eq_true rfl) (by simp [St.get]) fun E hk hn => ?_
  apply WPA.seq
  apply WPA.region
  · apply Trace.boxD 1 [] (.plain rfl) rfl rfl
    apply Trace.pu [] (.assign (.plain rfl))
    exact .nil _
  · exact keepOK_of hk hn rfl
  apply WPA.seq
  apply WPA.seq
  apply WPA.region
  · apply Trace.cu (callArgs0 .nil) spec10 en10
    apply Trace.pu [] (.not (.plain rfl))
    exact .nil _
  · exact keepOK_of hk hn rfl
  refine WPA.cond rfl (fun hc1 => ?_) (fun hc1 => ?_)
  · cases hc1
  · apply WPA.skip
    apply WPA.seq
    apply WPA.seq
    apply WPA.region
    · apply Trace.pu [_] ((Pure.loadAllD ty24 (.plain rfl) rfl (by simp [Val.cells_length])).to (y := ((Val.mk k n s l)).av) rfl)
      apply Trace.buildRows (g := Val.row [(Val.mk k n s l)]) so22 zo24 rfl (by decide) (by decide) (.cons (.plain rfl) rfl rfl (Nat.le_of_ble_eq_true rfl) (.nil _ _)) rfl (Val.row_one _)
      apply Trace.cu (callArgs0 (.cons (.plain rfl) .nil)) (spec11 [(Val.mk k n s l)] (by simp) (by simp; exact hz)) en11
      apply Trace.pu [] ((Pure.not (.plain rfl)).to (y := bv (!Val.few (Val.mk k n s l))) (by simp))
      exact .nil _
    · exact keepOK_of hk hn rfl
    refine WPA.cond rfl (fun hc2 => ?_) (fun hc2 => ?_)
    · apply WPA.seq
      apply WPA.region
      · apply Trace.pu [] (.assign (.plain rfl))
        exact .nil _
      · exact keepOK_of hk hn rfl
      apply WPA.ret
      refine ⟨.inr rfl, ⟨_, (.cons (.tmp rfl) .nil), ?_⟩, by simp [St.get]⟩
      rfl
    · have hfew : Val.few (Val.mk k n s l) = true := by simpa using hc2
      obtain ⟨hl1, hd1⟩ := Val.few_bd hz hfew
      have hl2 := Val.encoded_le (Val.mk k n s l)
      apply WPA.skip
      apply WPA.seq
      apply WPA.region
      · apply Trace.pu [_] ((Pure.loadAllD ty24 (.plain rfl) rfl (by simp [Val.cells_length])).to (y := ((Val.mk k n s l)).av) rfl)
        apply Trace.ct (callArgs0 (.cons (.plain rfl) .nil)) (spec12 (Val.mk k n s l) hz (by omega) (by omega)) en12
        apply Trace.pu [] (.move (.plain rfl))
        apply Trace.pu [] (.extract (.plain rfl) rfl)
        apply Trace.pu [] (.extract (.plain rfl) rfl)
        apply Trace.pu [] (.assign (.plain rfl))
        apply Trace.pu [] (.assign (.plain rfl))
        exact .nil _
      · exact keepOK_of hk hn rfl
      apply WPA.seq
      apply WPA.region
      · apply Trace.pu [_] ((Pure.loadAllD ty24 (.plain rfl) rfl (by simp [Val.cells_length])).to (y := ((Val.mk k n s l)).av) rfl)
        apply Trace.ct (callArgs0 (.cons (.plain rfl) .nil)) (spec13 (Val.mk k n s l) hz (by omega) (by omega)) en13
        apply Trace.pu [] (.move (.plain rfl))
        apply Trace.pu [] (.extract (.plain rfl) rfl)
        apply Trace.pu [] (.extract (.plain rfl) rfl)
        apply Trace.pu [] (.assign (.plain rfl))
        apply Trace.pu [] (.assign (.plain rfl))
        exact .nil _
      · exact keepOK_of hk hn rfl
      apply WPA.seq
      apply WPA.region
      · apply Trace.pu [_] ((Pure.loadAllD ty24 (.plain rfl) rfl (by simp [Val.cells_length])).to (y := ((Val.mk k n s l)).av) rfl)
        apply Trace.ct (callArgs0 (.cons (.plain rfl) .nil)) (spec14 (Val.mk k n s l) hz (by omega) (by omega)) en14
        apply Trace.pu [] (.move (.plain rfl))
        apply Trace.pu [] (.extract (.plain rfl) rfl)
        apply Trace.pu [] (.extract (.plain rfl) rfl)
        apply Trace.pu [] (.assign (.plain rfl))
        apply Trace.pu [] (.assign (.plain rfl))
        exact .nil _
      · exact keepOK_of hk hn rfl
      apply WPA.seq
      apply WPA.region
      · apply Trace.pu [_] ((Pure.loadAllD ty24 (.plain rfl) rfl (by simp [Val.cells_length])).to (y := ((Val.mk k n s l)).av) rfl)
        apply Trace.ct (callArgs0 (.cons (.plain rfl) .nil)) (spec15 (Val.mk k n s l) hz (by omega) (by omega)) en15
        apply Trace.pu [] (.move (.plain rfl))
        apply Trace.pu [] (.extract (.plain rfl) rfl)
        apply Trace.pu [] (.extract (.plain rfl) rfl)
        apply Trace.pu [] (.assign (.plain rfl))
        apply Trace.pu [] (.assign (.plain rfl))
        exact .nil _
      · exact keepOK_of hk hn rfl
      apply WPA.seq
      apply WPA.draw mixed
      · apply Trace.pu [] (.move (.plain rfl))
        apply Trace.pu [] (.strRows (xs := ((Val.mk k n s l)).encoded) bs27 Try.underlying9 (.plain rfl) (fun _ => rfl) (fun _ i hi => rfl))
        apply Trace.pu [] (.move (.plain rfl))
        apply Trace.pu [] (.strRows (xs := ((Val.mk k n s l)).encoded) bs27 Try.underlying9 (.plain rfl) (fun _ => rfl) (fun _ i hi => rfl))
        apply Trace.pu [] ((Pure.seq (.plain rfl) (.plain rfl)).to (y := bv true) (by simp))
        apply Trace.pu [] (.move (.plain rfl))
        apply Trace.pg [] rfl (.move (.plain rfl))
        apply Trace.pg [] rfl (.move (.plain rfl))
        apply Trace.pg [] rfl ((Pure.cmp (.gd rfl (fun h => h)) (.gd rfl (fun h => h)) rfl).to (y := bv true) (by simp))
        apply Trace.pu [] (.pick (.plain rfl) (.gd rfl (by simp)) (.plain rfl))
        apply Trace.pu [] (.move (.plain rfl))
        apply Trace.pg [] rfl (.move (.plain rfl))
        apply Trace.pg [] rfl (.move (.plain rfl))
        apply Trace.pg [] rfl ((Pure.cmp (.gd rfl (fun h => h)) (.gd rfl (fun h => h)) rfl).to (y := bv true) (by simp))
        apply Trace.pu [] (.pick (.plain rfl) (.gd rfl (by simp)) (.plain rfl))
        apply Trace.pu [] (.move (.plain rfl))
        apply Trace.pg [] rfl (.move (.plain rfl))
        apply Trace.pg [] rfl (.move (.plain rfl))
        apply Trace.pg [] rfl ((Pure.cmp (.gd rfl (fun h => h)) (.gd rfl (fun h => h)) rfl).to (y := bv true) (by simp))
        apply Trace.pu [] (.pick (.plain rfl) (.gd rfl (by simp)) (.plain rfl))
        apply Trace.pu [] (.move (.plain rfl))
        apply Trace.pg [_] rfl ((Pure.loadAllD ty24 (.plain rfl) rfl (by simp [Val.cells_length])).to (y := ((Val.mk k n s l)).av) rfl)
        apply Trace.cg rfl (callArgs0 (.cons (.gd rfl (fun h => h)) .nil)) (fun h => spec16 (Val.mk k n s l) hz (by omega)) en16
        apply Trace.pg [_] rfl ((Pure.loadAllD ty24 (.plain rfl) rfl (by simp [Val.cells_length])).to (y := ((Val.mk k n s l)).av) rfl)
        apply Trace.cg rfl (callArgs0 (.cons (.gd rfl (fun h => h)) .nil)) (fun h => spec17 (Val.mk k n s l) hz (by omega)) en17
        apply Trace.pg [] rfl ((Pure.cmp (.gd rfl (fun h => h)) (.gd rfl (fun h => h)) rfl).to (y := bv true) (by simp))
        apply Trace.pu [] (.pick (.plain rfl) (.gd rfl (by simp)) (.plain rfl))
        apply Trace.pu [] (.assign (.plain rfl))
        exact .nil _
      · rfl
      · exact keepOK_of hk hn rfl
      apply WPA.ret
      refine ⟨.inr rfl, ⟨_, (.cons (.tmp rfl) .nil), ?_⟩, by simp [St.get]⟩
      rfl
/-- soundpost/soundpostlaw01.CodecDecodeSpec -/
theorem spec4 (xs : List Int) (hx : xs.length ≤ 140737488355328) (hb : Bytes xs) : FnSpec Try.prog 4 [.d (bytesD xs)] [] (bv true) [] [] := by
  refine fnSpec_of (rs := [.tmp 2]) Try.func4 rfl rfl (Nat.le_of_ble_eq_true rfl) (by simp [St.get]) fun E hk hn => ?_
  apply WPA.seq
  apply WPA.region
  · apply Trace.pu [] (.assign (.plain rfl))
    exact .nil _
  · exact keepOK_of hk hn rfl
  apply WPA.seq
  apply WPA.seq
  apply WPA.region
  · apply Trace.cu (callArgs0 .nil) spec10 en10
    apply Trace.pu [] (.not (.plain rfl))
    exact .nil _
  · exact keepOK_of hk hn rfl
  refine WPA.cond rfl (fun hc1 => ?_) (fun hc1 => ?_)
  · cases hc1
  · apply WPA.skip
    apply WPA.seq
    apply WPA.seq
    apply WPA.region
    · apply Trace.pu [] (.move (.plain rfl))
      apply Trace.pu [] (.len rfl Try.underlying27 (.plain rfl) rfl)
      apply Trace.pu [] (.cmp (.plain rfl) (.plain rfl) rfl)
      exact .nil _
    · exact keepOK_of hk hn rfl
    refine WPA.cond rfl (fun hc2 => ?_) (fun hc2 => ?_)
    · apply WPA.seq
      apply WPA.region
      · apply Trace.pu [] (.assign (.plain rfl))
        exact .nil _
      · exact keepOK_of hk hn rfl
      apply WPA.ret
      refine ⟨.inr rfl, ⟨_, (.cons (.tmp rfl) .nil), ?_⟩, by simp [St.get]⟩
      rfl
    · have hx2 : xs.length ≤ 1000000 := by
        have : ¬ (2000 < (xs.length : Int)) := by simpa using hc2
        omega
      have hvz := dval_sz hx2 hb
      apply WPA.skip
      apply WPA.seq
      apply WPA.region
      · apply Trace.pu [] (.move (.plain rfl))
        apply Trace.ct (callArgs0 (.cons (.plain rfl) .nil)) (spec18 xs hx2 hb) en18
        apply Trace.pu [] (.move (.plain rfl))
        apply Trace.pu [] (.extract (.plain rfl) rfl)
        apply Trace.pu [] (.extract (.plain rfl) rfl)
        apply Trace.alloc 3 [] (.data _) zo24 (cellsAs_data _) rfl
        first | apply Trace.storeD ty24 (.plain rfl) (.plain rfl) rfl rfl (by simp [Val.cells_length]) (by first | exact Val.cells_one _ | simp [AV.oneB, single]) (by simp [Val.cells_length]) (spliceL_all (by simp [Val.cells_length])) | apply Trace.storeD ty24 (.plain rfl) (.plain rfl) rfl rfl (by simp [Val.cells_length]) (by first | exact Val.cells_one _ | simp [AV.oneB, single]) (by simp [Val.cells_length]) rfl | apply Trace.storeDA ty24 (.plain rfl) (.plain rfl) rfl rfl (by simp [Val.cells_length]) (by simp [AV.oneB, single]) (by simp [Val.cells_length]) rfl | apply Trace.storeLoc ty24 (.plain rfl) (.plain rfl) rfl rfl (by simp [Val.cells_length]) (by simp [AV.oneB, single]) (by simp) rfl | apply Trace.storeRow ty24 (.plain rfl) (.plain rfl) rfl rfl rfl rfl (by decide) (by simp [AV.oneB, single]) rfl (by omega)
        apply Trace.pu [] (.assign (.plain rfl))
        exact .nil _
      · exact keepOK_of hk hn rfl
      apply WPA.seq
      apply WPA.region
      · apply Trace.pu [] (.move (.plain rfl))
        apply Trace.ct (callArgs0 (.cons (.plain rfl) .nil)) (spec19 xs hx2 hb) en19
        apply Trace.pu [] (.move (.plain rfl))
        apply Trace.pu [] (.extract (.plain rfl) rfl)
        apply Trace.pu [] (.extract (.plain rfl) rfl)
        apply Trace.alloc 5 [] (.data _) zo24 (cellsAs_data _) rfl
        first | apply Trace.storeD ty24 (.plain rfl) (.plain rfl) rfl rfl (by simp [Val.cells_length]) (by first | exact Val.cells_one _ | simp [AV.oneB, single]) (by simp [Val.cells_length]) (spliceL_all (by simp [Val.cells_length])) | apply Trace.storeD ty24 (.plain rfl) (.plain rfl) rfl rfl (by simp [Val.cells_length]) (by first | exact Val.cells_one _ | simp [AV.oneB, single]) (by simp [Val.cells_length]) rfl | apply Trace.storeDA ty24 (.plain rfl) (.plain rfl) rfl rfl (by simp [Val.cells_length]) (by simp [AV.oneB, single]) (by simp [Val.cells_length]) rfl | apply Trace.storeLoc ty24 (.plain rfl) (.plain rfl) rfl rfl (by simp [Val.cells_length]) (by simp [AV.oneB, single]) (by simp) rfl | apply Trace.storeRow ty24 (.plain rfl) (.plain rfl) rfl rfl rfl rfl (by decide) (by simp [AV.oneB, single]) rfl (by omega)
        apply Trace.pu [] (.assign (.plain rfl))
        exact .nil _
      · exact keepOK_of hk hn rfl
      apply WPA.seq
      apply WPA.region
      · apply Trace.pu [_] ((Pure.loadAllD ty24 (.plain rfl) rfl (by simp [Val.cells_length])).to (y := (dval xs).av) rfl)
        apply Trace.pu [_] ((Pure.loadAllD ty24 (.plain rfl) rfl (by simp [Val.cells_length])).to (y := (dval xs).av) rfl)
        apply Trace.cu (callArgs0 (.cons (.plain rfl) (.cons (.plain rfl) .nil))) (res := .v (.bool true)) (by have := spec20 (dval xs) hvz (dval xs) hvz; rwa [Val.same_refl] at this) en20
        apply Trace.pu [] (.move (.plain rfl))
        apply Trace.pg [] rfl (.move (.plain rfl))
        apply Trace.pg [] rfl (.move (.plain rfl))
        apply Trace.pg [] rfl ((Pure.cmp (.gd rfl (fun h => h)) (.gd rfl (fun h => h)) rfl).to (y := bv true) (by simp))
        apply Trace.pu [] (.pick (.plain rfl) (.gd rfl (by simp)) (.plain rfl))
        apply Trace.pu [] (.assign (.plain rfl))
        exact .nil _
      · exact keepOK_of hk hn rfl
      apply WPA.ret
      refine ⟨.inr rfl, ⟨_, (.cons (.tmp rfl) .nil), ?_⟩, by simp [St.get]⟩
      rfl
/-- soundpost/soundpostlaw01.CodecSameSpec -/
theorem spec5 (v : Val) (hz : v.Sz) (w : Val) (hw : w.Sz) : FnSpec Try.prog 5 [v.av, w.av] [] (bv true) [] [] := by
  rcases v with ⟨k, n, s, l⟩
  rcases w with ⟨k', n', s', l'⟩
  refine fnSpec_of (rs := [.tmp 4]) Try.func5 rfl rfl (Nat.le_of_ble_eq_true rfl) (by simp [St.get]) fun E hk hn => ?_
  apply WPA.seq
  apply WPA.region
  · apply Trace.boxD 2 [] (.plain rfl) rfl rfl
    apply Trace.boxD 3 [] (.plain rfl) rfl rfl
    apply Trace.pu [] (.assign (.plain rfl))
    exact .nil _
  · exact keepOK_of hk hn rfl
  apply WPA.seq
  apply WPA.seq
  apply WPA.region
  · apply Trace.cu (callArgs0 .nil) spec10 en10
    apply Trace.pu [] (.not (.plain rfl))
    exact .nil _
  · exact keepOK_of hk hn rfl
  refine WPA.cond rfl (fun hc1 => ?_) (fun hc1 => ?_)
  · cases hc1
  · apply WPA.skip
    apply WPA.seq
    apply WPA.seq
    apply WPA.region
    · apply Trace.pu [_] ((Pure.loadAllD ty24 (.plain rfl) rfl (by simp [Val.cells_length])).to (y := ((Val.mk k n s l)).av) rfl)
      apply Trace.pu [_] ((Pure.loadAllD ty24 (.plain rfl) rfl (by simp [Val.cells_length])).to (y := ((Val.mk k' n' s' l')).av) rfl)
      apply Trace.buildRows (g := Val.row [(Val.mk k n s l), (Val.mk k' n' s' l')]) so22 zo24 rfl (by decide) (by decide) (.cons (.plain rfl) rfl rfl (Nat.le_of_ble_eq_true rfl) (.cons (.plain rfl) rfl rfl (Nat.le_of_ble_eq_true rfl) (.nil _ _))) rfl (Val.row_two _ _)
      apply Trace.cu (callArgs0 (.cons (.plain rfl) .nil)) (spec11 [(Val.mk k n s l), (Val.mk k' n' s' l')] (by simp) (by simp; exact ⟨hz, hw⟩)) en11
      apply Trace.pu [] (.not (.plain rfl))
      exact .nil _
    · exact keepOK_of hk hn rfl
    refine WPA.cond rfl (fun hc2 => ?_) (fun hc2 => ?_)
    · apply WPA.seq
      apply WPA.region
      · apply Trace.pu [] (.assign (.plain rfl))
        exact .nil _
      · exact keepOK_of hk hn rfl
      apply WPA.ret
      refine ⟨.inr rfl, ⟨_, (.cons (.tmp rfl) .nil), ?_⟩, by simp [St.get]⟩
      rfl
    · apply WPA.skip
      apply WPA.seq
      apply WPA.draw mixed
      · apply Trace.pu [_] ((Pure.loadAllD ty24 (.plain rfl) rfl (by simp [Val.cells_length])).to (y := ((Val.mk k n s l)).av) rfl)
        apply Trace.pu [_] ((Pure.loadAllD ty24 (.plain rfl) rfl (by simp [Val.cells_length])).to (y := ((Val.mk k' n' s' l')).av) rfl)
        apply Trace.cu (callArgs0 (.cons (.plain rfl) (.cons (.plain rfl) .nil))) (spec21 (Val.mk k n s l) hz (Val.mk k' n' s' l') hw) en21
        apply Trace.pu [_] ((Pure.loadAllD ty24 (.plain rfl) rfl (by simp [Val.cells_length])).to (y := ((Val.mk k n s l)).av) rfl)
        apply Trace.pu [_] ((Pure.loadAllD ty24 (.plain rfl) rfl (by simp [Val.cells_length])).to (y := ((Val.mk k' n' s' l')).av) rfl)
        apply Trace.cu (callArgs0 (.cons (.plain rfl) (.cons (.plain rfl) .nil))) (spec20 (Val.mk k n s l) hz (Val.mk k' n' s' l') hw) en20
        apply Trace.pu [] ((Pure.beq Try.underlying4 (.plain rfl) (.plain rfl)).to (y := bv true) (by simp))
        apply Trace.pu [] (.move (.plain rfl))
        apply Trace.pg [_] rfl ((Pure.loadAllD ty24 (.plain rfl) rfl (by simp [Val.cells_length])).to (y := ((Val.mk k n s l)).av) rfl)
        apply Trace.pg [_] rfl ((Pure.loadAllD ty24 (.plain rfl) rfl (by simp [Val.cells_length])).to (y := ((Val.mk k n s l)).av) rfl)
        apply Trace.cg rfl (res := .v (.bool true)) (callArgs0 (.cons (.gd rfl (fun h => h)) (.cons (.gd rfl (fun h => h)) .nil))) (fun _ => by have := spec21 (Val.mk k n s l) hz (Val.mk k n s l) hz; rwa [Val.same_refl] at this) en21
        apply Trace.pu [] (.pick (.plain rfl) (.gd rfl (by simp)) (.plain rfl))
        apply Trace.pu [] (.move (.plain rfl))
        apply Trace.pg [_] rfl ((Pure.loadAllD ty24 (.plain rfl) rfl (by simp [Val.cells_length])).to (y := ((Val.mk k' n' s' l')).av) rfl)
        apply Trace.pg [_] rfl ((Pure.loadAllD ty24 (.plain rfl) rfl (by simp [Val.cells_length])).to (y := ((Val.mk k' n' s' l')).av) rfl)
        apply Trace.cg rfl (res := .v (.bool true)) (callArgs0 (.cons (.gd rfl (fun h => h)) (.cons (.gd rfl (fun h => h)) .nil))) (fun _ => by have := spec21 (Val.mk k' n' s' l') hw (Val.mk k' n' s' l') hw; rwa [Val.same_refl] at this) en21
        apply Trace.pu [] (.pick (.plain rfl) (.gd rfl (by simp)) (.plain rfl))
        apply Trace.pu [] (.assign (.plain rfl))
        exact .nil _
      · rfl
      · exact keepOK_of hk hn rfl
      apply WPA.ret
      refine ⟨.inr rfl, ⟨_, (.cons (.tmp rfl) .nil), ?_⟩, by simp [St.get]⟩
      rfl

end Go.Proofs.Ytlccnbnnlfbfjaa

