import Derived.Test.YtmdfamnnnoieaaaDoorPkR
import Derived.Test.YtmdfamnnnoieaaaDoorPkH
/- The contracts of pools with their answers named; sane. -/
namespace Go.Proofs.YtmdfamnnnoieaaaDoor
open Go
set_option linter.unusedVariables false
set_option linter.unusedSimpArgs false
set_option maxRecDepth 10000
set_option maxHeartbeats 4000000

theorem putF {ts us : List Tk} {xs d : List Int} {e : Int} (hts : ∀ t ∈ ts, t.Ok) (hn1 : ts.length ≤ 500) (hx : xs.length ≤ 1000) (hb : ∀ x ∈ xs, -9223372036854775808 ≤ x ∧ x ≤ 9223372036854775807) (h : putE ts xs = (us, d, e)) : FnSpec Tryd.prog 11 [.d (poolD ts), .d (intsD xs)] [] (.tup ([poolD us, byD d, .v (.int .i64 e)].map .d)) [] [] := by
  have h0 := spec11 ts xs hts (by omega) hx hb
  rw [h] at h0
  exact h0
theorem putR {ts us : List Tk} {xs d : List Int} {e : Int} (hts : ∀ t ∈ ts, t.Ok) (hn1 : ts.length ≤ 500) (hx : xs.length ≤ 1000) (hb : ∀ x ∈ xs, -9223372036854775808 ≤ x ∧ x ≤ 9223372036854775807) (h : putE ts xs = (us, d, e)) : FnSpec Tryd.prog 12 [.d (poolD ts), .d (intsD xs)] [] (.tup ([poolD us, byD d, .v (.int .i64 e)].map .d)) [] [] := by
  have h0 := spec12 ts hts (by omega) xs hx hb
  rw [h] at h0
  exact h0
theorem getF {ts : List Tk} {xs k : List Int} {e : Int} (hts : ∀ t ∈ ts, t.Ok) (hn1 : ts.length ≤ 500) (hkl : k.length = 32) (hkb : Byt k) (h : getE ts k = (xs, e)) : FnSpec Tryd.prog 13 [.d (poolD ts), .d (byD k)] [] (.tup ([intsD xs, .v (.int .i64 e)].map .d)) [] [] := by
  have h0 := spec13 ts k hts hkl hkb (by omega)
  rw [h] at h0
  exact h0
theorem getR {ts : List Tk} {xs k : List Int} {e : Int} (hts : ∀ t ∈ ts, t.Ok) (hn1 : ts.length ≤ 500) (hkl : k.length = 32) (hkb : Byt k) (h : getE ts k = (xs, e)) : FnSpec Tryd.prog 14 [.d (poolD ts), .d (byD k)] [] (.tup ([intsD xs, .v (.int .i64 e)].map .d)) [] [] := by
  have h0 := spec14 ts hts (by omega) k hkl
  rw [h] at h0
  exact h0
theorem lookF {ts : List Tk} {xs k : List Int} {b : Bool} (hts : ∀ t ∈ ts, t.Ok) (hn1 : ts.length ≤ 500) (hkl : k.length = 32) (hkb : Byt k) (h : lookE ts k = (xs, b)) : FnSpec Tryd.prog 15 [.d (poolD ts), .d (byD k)] [] (.tup ([intsD xs, .v (.bool b)].map .d)) [] [] := by
  have h0 := spec15 ts k hts hkl hkb (by omega)
  rw [h] at h0
  exact h0
theorem lookR {ts : List Tk} {xs k : List Int} {b : Bool} (hts : ∀ t ∈ ts, t.Ok) (hn1 : ts.length ≤ 500) (hkl : k.length = 32) (hkb : Byt k) (h : lookE ts k = (xs, b)) : FnSpec Tryd.prog 16 [.d (poolD ts), .d (byD k)] [] (.tup ([intsD xs, .v (.bool b)].map .d)) [] [] := by
  have h0 := spec16 ts hts (by omega) k hkl
  rw [h] at h0
  exact h0
theorem mergeF {ts vs us : List Tk} {e : Int} (hts : ∀ t ∈ ts, t.Ok) (hn1 : ts.length ≤ 500) (hvs : ∀ t ∈ vs, t.Ok) (hn2 : vs.length ≤ 500) (h : mergeE ts vs = (us, e)) : FnSpec Tryd.prog 21 [.d (poolD ts), .d (poolD vs)] [] (.tup ([poolD us, .v (.int .i64 e)].map .d)) [] [] := by
  have h0 := spec21 ts vs hts hvs (by omega)
  rw [h] at h0
  exact h0
theorem mergeR {ts vs us : List Tk} {e : Int} (hts : ∀ t ∈ ts, t.Ok) (hn1 : ts.length ≤ 500) (hvs : ∀ t ∈ vs, t.Ok) (hn2 : vs.length ≤ 500) (h : mergeE ts vs = (us, e)) : FnSpec Tryd.prog 22 [.d (poolD ts), .d (poolD vs)] [] (.tup ([poolD us, .v (.int .i64 e)].map .d)) [] [] := by
  have h0 := spec22 ts vs hts hvs (by omega) (by omega)
  rw [h] at h0
  exact h0
theorem collectF {ts us : List Tk} {ks : List (List Int)} {e : Int} (hts : ∀ t ∈ ts, t.Ok) (hn1 : ts.length ≤ 500) (hks : ∀ k ∈ ks, k.length = 32) (hk1 : ks.length ≤ 1000) (h : collectE ts ks = (us, e)) : FnSpec Tryd.prog 23 [.d (poolD ts), .d (digsD ks)] [] (.tup ([poolD us, .v (.int .i64 e)].map .d)) [] [] := by
  have h0 := spec23 ts ks hts (by omega) hks hk1
  rw [h] at h0
  exact h0
theorem collectR {ts us : List Tk} {ks : List (List Int)} {e : Int} (hts : ∀ t ∈ ts, t.Ok) (hn1 : ts.length ≤ 500) (hks : ∀ k ∈ ks, k.length = 32) (hk1 : ks.length ≤ 1000) (h : collectE ts ks = (us, e)) : FnSpec Tryd.prog 24 [.d (poolD ts), .d (digsD ks)] [] (.tup ([poolD us, .v (.int .i64 e)].map .d)) [] [] := by
  have h0 := spec24 ts ks hts (by omega) hks hk1
  rw [h] at h0
  exact h0
theorem checkF {ts : List Tk} {e : Int} (hts : ∀ t ∈ ts, t.Ok) (hn1 : ts.length ≤ 500) (h : ckE ts = e) : FnSpec Tryd.prog 19 [.d (poolD ts)] [] (iv .i64 e) [] [] := by
  have h0 := spec19 ts hts (by omega)
  rw [h] at h0
  exact h0
theorem checkR {ts : List Tk} {e : Int} (hts : ∀ t ∈ ts, t.Ok) (hn1 : ts.length ≤ 500) (h : ckE ts = e) : FnSpec Tryd.prog 20 [.d (poolD ts)] [] (iv .i64 e) [] [] := by
  have h0 := spec20 ts hts (by omega)
  rw [h] at h0
  exact h0
theorem sameT {ts us : List Tk} (hts : ∀ t ∈ ts, t.Ok) (hn1 : ts.length ≤ 500) (hus : ∀ t ∈ us, t.Ok) (hn2 : us.length ≤ 500) (h : decide (ts = us) = true) : FnSpec Tryd.prog 17 [.d (poolD ts), .d (poolD us)] [] (bv true) [] [] := by
  have h0 := spec17 ts us hts hus (by omega) (by omega)
  rw [h] at h0
  exact h0
theorem intsT {xs ys : List Int} (hx : xs.length ≤ 1000) (hy : ys.length ≤ 1000) (h : decide (xs = ys) = true) : FnSpec Tryd.prog 18 [.d (intsD xs), .d (intsD ys)] [] (bv true) [] [] := by
  have h0 := spec18 xs ys (by omega) (by omega)
  rw [h] at h0
  exact h0

/-! The examples. -/
theorem enc_one (n : Nat) (h : n < 64) : (listV [(n : Int)]).enc = [3, 1, 1, 2 * (n : Int)] := by
  have e : zig (n : Int) = 2 * n := by unfold zig; rw [if_pos (by omega)]; omega
  rw [listV, Val.enc_list]
  simp only [List.map_cons, List.map_nil, Val.encs, numV, Val.enc_int, List.length_cons, List.length_nil, e]
  rw [dig_lt (show 0 + 1 < 128 by decide), dig_lt (show 2 * n < 128 by omega)]
  simp
theorem nm5 : nmD [5] = tagM [116, 97, 107, 101] [3, 1, 1, 10] := by
  have := enc_one 5 (by decide)
  unfold nmD
  exact congrArg (tagM _) this
theorem nm0 : nmD [0] = tagM [116, 97, 107, 101] [3, 1, 1, 0] := by
  have := enc_one 0 (by decide)
  unfold nmD
  exact congrArg (tagM _) this
theorem nm5_ne : nmD [5] ≠ zero32 := by
  rw [nm5]
  have : decide (tagM [116, 97, 107, 101] [3, 1, 1, 10] = zero32) = false := by kernel_rfl
  exact of_decide_eq_false this
theorem nm0_ne : nmD [0] ≠ zero32 := by
  rw [nm0]
  have : decide (tagM [116, 97, 107, 101] [3, 1, 1, 0] = zero32) = false := by kernel_rfl
  exact of_decide_eq_false this
def t5 : Tk := ⟨nmD [5], [5]⟩
theorem t5_ok : t5.Ok := ⟨nmD_length _, nmD_byt _, by simp [t5], by decide⟩
theorem t5s_ok : ∀ t ∈ [t5], t.Ok := fun t h => by simp at h; rw [h]; exact t5_ok
theorem t5_chk : chk [t5] = true := chk_iff.2 ⟨List.pairwise_singleton _ _, fun t h => by simp at h; rw [h]; exact ⟨rfl, rfl⟩⟩
theorem t5_srt : SrtP [t5] := List.pairwise_singleton _ _
theorem e1 : putE [] [] = ([], zero32, 250) := rfl
theorem e2 : putE [] [2147483648] = ([], zero32, 250) := rfl
theorem e3 (k : List Int) : getE [] k = ([], 251) := rfl
theorem e4 : putE [] [5] = ([t5], nmD [5], 0) := by
  have h1 : metOf [] (nmD [5]) = false := rfl
  have h2 : (nmOk [5] && chk []) = true := rfl
  unfold putE
  rw [h2, h1]
  rfl
theorem e5 : getE [t5] (nmD [5]) = ([5], 0) := by
  rw [getE_look t5_chk]
  have := look_mem t5_srt (t := t5) (by simp)
  rw [show nmD [5] = t5.d from rfl, this]
  rfl
theorem e6 : mergeE [t5] [t5] = ([t5], 0) := by
  rw [mergeE_ok t5_chk t5_chk]
  have h := mrg_spec [t5] [t5] t5_srt t5_srt
  rw [srtP_ext h.1 t5_srt fun t => by rw [h.2]; exact ⟨fun h => h.elim id And.left, .inl⟩]
theorem e7 : collectE [t5] [] = ([], 0) := by unfold collectE; rw [t5_chk]; rfl
theorem e8 : lookE [t5] zero32 = ([], false) := look_no fun t h => by simp at h; rw [h]; exact nm5_ne
theorem e9 : putE [t5] [5] = ([t5], nmD [5], 0) := by
  have h1 : metOf [t5] (nmD [5]) = true := (met_mem t5_srt).2 ⟨t5, by simp, rfl⟩
  have h2 : (nmOk [5] && chk [t5]) = true := by rw [t5_chk]; rfl
  unfold putE
  rw [h2, h1]
  rfl
theorem e10 : ckE [] = 0 := rfl
def t0 : Tk := ⟨zero32, [0]⟩
theorem e11 : ckE [t0] = 250 := by
  have : chk [t0] = false := by
    cases h : chk [t0] with
    | false => rfl
    | true => exact absurd ((chk_iff.1 h).2 t0 (by simp)).2 nm0_ne
  unfold ckE
  rw [this]
  rfl
theorem nil_ok : ∀ t ∈ ([] : List Tk), t.Ok := fun _ h => nomatch h
theorem t0s_ok : ∀ t ∈ [t0], t.Ok := fun t h => by
  simp at h
  rw [h]
  exact ⟨rfl, by intro x hx; simp [t0, zero32] at hx; omega, by simp [t0], by decide⟩
theorem big1 {n : Int} (h : -9223372036854775808 ≤ n ∧ n ≤ 9223372036854775807) : ∀ x ∈ [n], -9223372036854775808 ≤ x ∧ x ≤ 9223372036854775807 := fun x hx => by simp at hx; rw [hx]; exact h
theorem zero_byt : Byt zero32 := by intro x hx; simp [zero32] at hx; omega
theorem nmD5_len : (nmD [5]).length = 32 := nmD_length _
theorem putNil : FnSpec Tryd.prog 11 [.d (poolD []), nilS] [] (.tup ([poolD [], byD zero32, .v (.int .i64 250)].map .d)) [] [] :=
  FnSpec.argLe (A1 := [.d (poolD [])]) (A2 := []) (putF nil_ok (by decide) (by decide) (by simp) e1) den_nilRows
theorem collectNil : FnSpec Tryd.prog 23 [.d (poolD [t5]), nilS] [] (.tup ([poolD [], .v (.int .i64 0)].map .d)) [] [] :=
  FnSpec.argLe (A1 := [.d (poolD [t5])]) (A2 := []) (collectF t5s_ok (by decide) (by simp) (by decide) e7) den_nilRows
/-- soundpost/soundpostlaw25.sane -/
theorem spec9  : FnSpec Tryd.prog 9 [] [] (bv true) [] [] := by
  refine fnSpec_of (rs := [.tmp 0]) Tryd.func9 rfl rfl (Nat.le_of_ble_eq_true rfl) (by simp [St.get]) fun E hk hn => ?_
  apply WPA.seq
  apply WPA.region
  · apply Trace.pu [] (.assign (.plain rfl))
    exact .nil _
  · exact keepOK_of hk hn rfl
  apply WPA.seq
  apply WPA.region
  · apply Trace.pu [] ((Pure.build zo24 pl24 (.nil _ _) rfl).imp (v := .d (poolD [])) (den_aggLe (.rows .nil)))
    apply Trace.ct (callArgs0 (.cons (.plain rfl) (.cons (.plain rfl) .nil))) putNil en11
    apply Trace.pu [] (.move (.plain rfl))
    apply Trace.pu [] (.extract (.plain rfl) rfl)
    apply Trace.pu [] (.extract (.plain rfl) rfl)
    apply Trace.pu [] (.extract (.plain rfl) rfl)
    apply Trace.alloc 1 [] (.data _) zo24 (cellsAs_data _) rfl
    apply Trace.alloc 2 [] (.data (List.replicate 32 (D.v (.int .u8 0)))) zo27 (cellsAs_data _) rfl
    apply Trace.storeD ty24 (.plain rfl) (.plain rfl) rfl rfl rfl (by simp [AV.oneB, single]) (by decide) rfl
    apply Trace.storeD (cs' := zero32.map fun x => .v (.int .u8 x)) ty27 (.plain rfl) (.plain rfl) rfl rfl rfl (by_one zero32) (by decide) (spliceL_all (by rfl))
    apply Trace.pu [] (.assign (.plain rfl))
    exact .nil _
  · exact keepOK_of hk hn rfl
  apply WPA.seq
  apply WPA.region
  · apply Trace.pu [] ((Pure.build zo24 pl24 (.nil _ _) rfl).imp (v := .d (poolD [])) (den_aggLe (.rows .nil)))
    apply Trace.buildRows (g := fun i => [.v (.int .i64 (([2147483648] : List Int).getD i 0))]) so25 zo3 rfl (by decide) (by decide) (.cons (.plain rfl) rfl rfl (Nat.le_of_ble_eq_true rfl) (.nil _ _)) rfl (fun i hi => by rw [show i = 0 by omega]; rfl)
    apply Trace.ct (callArgs0 (.cons (.plain rfl) (.cons (.plain rfl) .nil))) (putF nil_ok (by decide) (by decide) (big1 (by decide)) e2) en11
    apply Trace.pu [] (.move (.plain rfl))
    apply Trace.pu [] (.extract (.plain rfl) rfl)
    apply Trace.pu [] (.extract (.plain rfl) rfl)
    apply Trace.pu [] (.extract (.plain rfl) rfl)
    apply Trace.alloc 4 [] (.data _) zo24 (cellsAs_data _) rfl
    apply Trace.alloc 5 [] (.data (List.replicate 32 (D.v (.int .u8 0)))) zo27 (cellsAs_data _) rfl
    apply Trace.storeD ty24 (.plain rfl) (.plain rfl) rfl rfl rfl (by simp [AV.oneB, single]) (by decide) rfl
    apply Trace.storeD (cs' := zero32.map fun x => .v (.int .u8 x)) ty27 (.plain rfl) (.plain rfl) rfl rfl rfl (by_one zero32) (by decide) (spliceL_all (by rfl))
    apply Trace.pu [] (.assign (.plain rfl))
    exact .nil _
  · exact keepOK_of hk hn rfl
  apply WPA.seq
  apply WPA.region
  · apply Trace.pu [] ((Pure.build zo24 pl24 (.nil _ _) rfl).imp (v := .d (poolD [])) (den_aggLe (.rows .nil)))
    apply Trace.pu [] ((Pure.build zo27 pl27 (.nil _ _) rfl).to (y := .d (byD zero32)) rfl)
    apply Trace.ct (callArgs0 (.cons (.plain rfl) (.cons (.plain rfl) .nil))) (getF nil_ok (by decide) rfl zero_byt (e3 _)) en13
    apply Trace.pu [] (.move (.plain rfl))
    apply Trace.pu [] (.extract (.plain rfl) rfl)
    apply Trace.pu [] (.extract (.plain rfl) rfl)
    apply Trace.pu [] (.assign (.plain rfl))
    apply Trace.pu [] (.assign (.plain rfl))
    exact .nil _
  · exact keepOK_of hk hn rfl
  apply WPA.seq
  apply WPA.region
  · apply Trace.pu [] ((Pure.build zo24 pl24 (.nil _ _) rfl).imp (v := .d (poolD [])) (den_aggLe (.rows .nil)))
    apply Trace.buildRows (g := fun i => [.v (.int .i64 (([5] : List Int).getD i 0))]) so25 zo3 rfl (by decide) (by decide) (.cons (.plain rfl) rfl rfl (Nat.le_of_ble_eq_true rfl) (.nil _ _)) rfl (fun i hi => by rw [show i = 0 by omega]; rfl)
    apply Trace.ct (callArgs0 (.cons (.plain rfl) (.cons (.plain rfl) .nil))) (putF nil_ok (by decide) (by decide) (big1 (by decide)) e4) en11
    apply Trace.pu [] (.move (.plain rfl))
    apply Trace.pu [] (.extract (.plain rfl) rfl)
    apply Trace.pu [] (.extract (.plain rfl) rfl)
    apply Trace.pu [] (.extract (.plain rfl) rfl)
    apply Trace.alloc 9 [] (.data _) zo24 (cellsAs_data _) rfl
    apply Trace.alloc 10 [] (.data (List.replicate 32 (D.v (.int .u8 0)))) zo27 (cellsAs_data _) rfl
    apply Trace.storeD ty24 (.plain rfl) (.plain rfl) rfl rfl rfl (by simp [AV.oneB, single]) (by decide) rfl
    apply Trace.storeD (cs' := (nmD [5]).map fun x => .v (.int .u8 x)) ty27 (.plain rfl) (.plain rfl) rfl rfl (by simp [nmD_length]) (by_one _) (by decide) (spliceL_all (by simp [nmD_length]))
    apply Trace.pu [] (.assign (.plain rfl))
    exact .nil _
  · exact keepOK_of hk hn rfl
  apply WPA.seq
  apply WPA.region
  · apply Trace.pu [_] (.loadAllD ty24 (.plain rfl) rfl rfl)
    apply Trace.pu [_] (.loadAllD ty27 (.plain rfl) rfl (by simp [nmD_length]))
    apply Trace.ct (callArgs0 (.cons (.plain rfl) (.cons (.plain rfl) .nil))) (getF t5s_ok (by decide) nmD5_len (nmD_byt _) e5) en13
    apply Trace.pu [] (.move (.plain rfl))
    apply Trace.pu [] (.extract (.plain rfl) rfl)
    apply Trace.pu [] (.extract (.plain rfl) rfl)
    apply Trace.pu [] (.assign (.plain rfl))
    apply Trace.pu [] (.assign (.plain rfl))
    exact .nil _
  · exact keepOK_of hk hn rfl
  apply WPA.seq
  apply WPA.region
  · apply Trace.pu [_] (.loadAllD ty24 (.plain rfl) rfl rfl)
    apply Trace.pu [_] (.loadAllD ty24 (.plain rfl) rfl rfl)
    apply Trace.ct (callArgs0 (.cons (.plain rfl) (.cons (.plain rfl) .nil))) (mergeF t5s_ok (by decide) t5s_ok (by decide) e6) en21
    apply Trace.pu [] (.move (.plain rfl))
    apply Trace.pu [] (.extract (.plain rfl) rfl)
    apply Trace.pu [] (.extract (.plain rfl) rfl)
    apply Trace.alloc 14 [] (.data _) zo24 (cellsAs_data _) rfl
    apply Trace.storeD ty24 (.plain rfl) (.plain rfl) rfl rfl rfl (by simp [AV.oneB, single]) (by decide) rfl
    apply Trace.pu [] (.assign (.plain rfl))
    exact .nil _
  · exact keepOK_of hk hn rfl
  apply WPA.seq
  apply WPA.region
  · apply Trace.pu [_] (.loadAllD ty24 (.plain rfl) rfl rfl)
    apply Trace.ct (callArgs0 (.cons (.plain rfl) (.cons (.plain rfl) .nil))) collectNil en23
    apply Trace.pu [] (.move (.plain rfl))
    apply Trace.pu [] (.extract (.plain rfl) rfl)
    apply Trace.pu [] (.extract (.plain rfl) rfl)
    apply Trace.alloc 16 [] (.data _) zo24 (cellsAs_data _) rfl
    apply Trace.storeD ty24 (.plain rfl) (.plain rfl) rfl rfl rfl (by simp [AV.oneB, single]) (by decide) rfl
    apply Trace.pu [] (.assign (.plain rfl))
    exact .nil _
  · exact keepOK_of hk hn rfl
  apply WPA.seq
  apply WPA.region
  · apply Trace.pu [_] (.loadAllD ty24 (.plain rfl) rfl rfl)
    apply Trace.pu [] ((Pure.build zo27 pl27 (.nil _ _) rfl).to (y := .d (byD zero32)) rfl)
    apply Trace.ct (callArgs0 (.cons (.plain rfl) (.cons (.plain rfl) .nil))) (lookF t5s_ok (by decide) rfl zero_byt e8) en15
    apply Trace.pu [] (.move (.plain rfl))
    apply Trace.pu [] (.extract (.plain rfl) rfl)
    apply Trace.pu [] (.extract (.plain rfl) rfl)
    apply Trace.pu [] (.assign (.plain rfl))
    apply Trace.pu [] (.assign (.plain rfl))
    exact .nil _
  · exact keepOK_of hk hn rfl
  apply WPA.seq
  apply WPA.region
  · apply Trace.pu [_] (.loadAllD ty24 (.plain rfl) rfl rfl)
    apply Trace.buildRows (g := fun i => [.v (.int .i64 (([5] : List Int).getD i 0))]) so25 zo3 rfl (by decide) (by decide) (.cons (.plain rfl) rfl rfl (Nat.le_of_ble_eq_true rfl) (.nil _ _)) rfl (fun i hi => by rw [show i = 0 by omega]; rfl)
    apply Trace.ct (callArgs0 (.cons (.plain rfl) (.cons (.plain rfl) .nil))) (putF t5s_ok (by decide) (by decide) (big1 (by decide)) e9) en11
    apply Trace.pu [] (.move (.plain rfl))
    apply Trace.pu [] (.extract (.plain rfl) rfl)
    apply Trace.pu [] (.extract (.plain rfl) rfl)
    apply Trace.pu [] (.extract (.plain rfl) rfl)
    apply Trace.alloc 20 [] (.data _) zo24 (cellsAs_data _) rfl
    apply Trace.alloc 21 [] (.data (List.replicate 32 (D.v (.int .u8 0)))) zo27 (cellsAs_data _) rfl
    apply Trace.storeD ty24 (.plain rfl) (.plain rfl) rfl rfl rfl (by simp [AV.oneB, single]) (by decide) rfl
    apply Trace.storeD (cs' := (nmD [5]).map fun x => .v (.int .u8 x)) ty27 (.plain rfl) (.plain rfl) rfl rfl (by simp [nmD_length]) (by_one _) (by decide) (spliceL_all (by simp [nmD_length]))
    apply Trace.pu [] (.assign (.plain rfl))
    exact .nil _
  · exact keepOK_of hk hn rfl
  apply WPA.seq
  apply WPA.seq
  apply WPA.region
  · apply Trace.pu [] (.move (.plain rfl))
    apply Trace.pu [] (.cmp (.plain rfl) (.plain rfl) rfl)
    apply Trace.pu [] (.move (.plain rfl))
    apply Trace.pg [] rfl (.move (.plain rfl))
    apply Trace.pg [] rfl (.cmp (.gd rfl (fun h => h)) (.plain rfl) rfl)
    apply Trace.pu [] (.pick (.plain rfl) (.plain rfl) (.gd rfl (by simp)))
    apply Trace.pu [] (.move (.plain rfl))
    apply Trace.pg [] rfl (.move (.plain rfl))
    apply Trace.pg [] rfl (.cmp (.gd rfl (fun h => h)) (.plain rfl) rfl)
    apply Trace.pu [] (.pick (.plain rfl) (.plain rfl) (.gd rfl (by simp)))
    apply Trace.pu [] (.move (.plain rfl))
    apply Trace.pg [] rfl (.move (.plain rfl))
    apply Trace.pg [] rfl (.cmp (.gd rfl (fun h => h)) (.plain rfl) rfl)
    apply Trace.pu [] (.pick (.plain rfl) (.plain rfl) (.gd rfl (by simp)))
    apply Trace.pu [] (.move (.plain rfl))
    apply Trace.pg [] rfl (.move (.plain rfl))
    apply Trace.pg [] rfl (.cmp (.gd rfl (fun h => h)) (.plain rfl) rfl)
    apply Trace.pu [] (.pick (.plain rfl) (.plain rfl) (.gd rfl (by simp)))
    apply Trace.pu [] (.move (.plain rfl))
    apply Trace.pg [] rfl (.move (.plain rfl))
    apply Trace.pg [] rfl (.cmp (.gd rfl (fun h => h)) (.plain rfl) rfl)
    apply Trace.pu [] (.pick (.plain rfl) (.plain rfl) (.gd rfl (by simp)))
    apply Trace.pu [] (.move (.plain rfl))
    apply Trace.pg [] rfl (.move (.plain rfl))
    apply Trace.pg [] rfl (.cmp (.gd rfl (fun h => h)) (.plain rfl) rfl)
    apply Trace.pu [] (.pick (.plain rfl) (.plain rfl) (.gd rfl (by simp)))
    apply Trace.pu [] (.move (.plain rfl))
    apply Trace.pg [] rfl (.move (.plain rfl))
    apply Trace.pg [] rfl (.cmp (.gd rfl (fun h => h)) (.plain rfl) rfl)
    apply Trace.pu [] (.pick (.plain rfl) (.plain rfl) (.gd rfl (by simp)))
    exact .nil _
  · exact keepOK_of hk hn rfl
  refine WPA.cond rfl (fun hc1 => ?_) (fun hc1 => ?_)
  · simp at hc1
  · apply WPA.skip
    apply WPA.seq
    apply WPA.draw mixed
    · apply Trace.pu [] (.move (.plain rfl))
      apply Trace.pu [] (.not (.plain rfl))
      apply Trace.pu [] (.move (.plain rfl))
      apply Trace.og rfl
      apply Trace.pu [_] (.loadAllD ty27 (.plain rfl) rfl (by simp [nmD_length]))
      apply Trace.og rfl
      apply Trace.pu [_] (.loadAllD ty27 (.plain rfl) rfl (by simp [nmD_length]))
      apply Trace.og rfl
      apply Trace.pu [] ((Pure.aeq ba27 (.plain rfl) (.plain rfl) (fun _ => nmD5_len) (fun _ => nmD5_len)).to (y := bv true) (congrArg bv (decide_eq_true rfl)))
      apply Trace.pu [] (.pick (.plain rfl) (.plain rfl) (.plain rfl))
      apply Trace.pu [] (.move (.plain rfl))
      apply Trace.og rfl
      apply Trace.pu [_] (.loadAllD ty27 (.plain rfl) rfl (by simp [nmD_length]))
      apply Trace.og rfl
      apply Trace.buildRows (g := fun i => [.v (.int .u8 (([3, 1, 1, 10] : List Int).getD i 0))]) so54 zo5 rfl (by decide) (by decide) (.cons (.plain rfl) rfl rfl (Nat.le_of_ble_eq_true rfl) (.cons (.plain rfl) rfl rfl (Nat.le_of_ble_eq_true rfl) (.cons (.plain rfl) rfl rfl (Nat.le_of_ble_eq_true rfl) (.cons (.plain rfl) rfl rfl (Nat.le_of_ble_eq_true rfl) (.nil _ _))))) rfl (fun i hi => by match i, hi with | 0, _ => rfl | 1, _ => rfl | 2, _ => rfl | 3, _ => rfl)
      apply Trace.og rfl
      apply Trace.cu (callArgs0 (.cons (.plain rfl) (.cons (.plain rfl) .nil))) (spec27 ⟨#[116, 97, 107, 101]⟩ (by decide) [3, 1, 1, 10] _ (by decide) (fun i hi => rfl)) en27
      apply Trace.og rfl
      apply Trace.pu [] ((Pure.aeq ba27 (.plain rfl) (.plain rfl) (fun _ => nmD5_len) (fun _ => tagM_length _ _)).to (y := bv true) (congrArg bv (decide_eq_true nm5)))
      apply Trace.pu [] (.pick (.plain rfl) (.plain rfl) (.plain rfl))
      apply Trace.pu [] (.move (.plain rfl))
      apply Trace.og rfl
      apply Trace.pu [] (.move (.plain rfl))
      apply Trace.og rfl
      apply Trace.buildRows (g := fun i => [.v (.int .i64 (([5] : List Int).getD i 0))]) so25 zo3 rfl (by decide) (by decide) (.cons (.plain rfl) rfl rfl (Nat.le_of_ble_eq_true rfl) (.nil _ _)) rfl (fun i hi => by rw [show i = 0 by omega]; rfl)
      apply Trace.og rfl
      apply Trace.cu (callArgs0 (.cons (.plain rfl) (.cons (.plain rfl) .nil))) (intsT (by decide) (by decide) (decide_eq_true rfl)) en18
      apply Trace.pu [] (.pick (.plain rfl) (.plain rfl) (.plain rfl))
      apply Trace.pu [] (.move (.plain rfl))
      apply Trace.og rfl
      apply Trace.pu [] (.fieldAddr fl24_0 (.plain rfl) rfl)
      apply Trace.og rfl
      apply Trace.pu [_] (.loadLoc1D ty22 (.plain rfl) rfl rfl)
      apply Trace.og rfl
      apply Trace.pu [] (.len rfl Tryd.underlying22 (.plain rfl) rfl)
      apply Trace.og rfl
      apply Trace.pu [] ((Pure.cmp (.plain rfl) (.plain rfl) rfl).to (y := bv true) (congrArg bv (decide_eq_true rfl)))
      apply Trace.pu [] (.pick (.plain rfl) (.plain rfl) (.plain rfl))
      apply Trace.pu [] (.move (.plain rfl))
      apply Trace.og rfl
      apply Trace.pu [_] (.loadAllD ty24 (.plain rfl) rfl rfl)
      apply Trace.og rfl
      apply Trace.pu [_] (.loadAllD ty24 (.plain rfl) rfl rfl)
      apply Trace.og rfl
      apply Trace.cu (callArgs0 (.cons (.plain rfl) (.cons (.plain rfl) .nil))) (sameT t5s_ok (by decide) t5s_ok (by decide) (decide_eq_true rfl)) en17
      apply Trace.pu [] (.pick (.plain rfl) (.plain rfl) (.plain rfl))
      apply Trace.pu [] (.move (.plain rfl))
      apply Trace.og rfl
      apply Trace.pu [_] (.loadAllD ty24 (.plain rfl) rfl rfl)
      apply Trace.og rfl
      apply Trace.pu [_] (.loadAllD ty24 (.plain rfl) rfl rfl)
      apply Trace.og rfl
      apply Trace.cu (callArgs0 (.cons (.plain rfl) (.cons (.plain rfl) .nil))) (sameT t5s_ok (by decide) t5s_ok (by decide) (decide_eq_true rfl)) en17
      apply Trace.pu [] (.pick (.plain rfl) (.plain rfl) (.plain rfl))
      apply Trace.pu [] (.move (.plain rfl))
      apply Trace.og rfl
      apply Trace.pu [] (.fieldAddr fl24_0 (.plain rfl) rfl)
      apply Trace.og rfl
      apply Trace.pu [_] (.loadLoc1D ty22 (.plain rfl) rfl rfl)
      apply Trace.og rfl
      apply Trace.pu [] (.len rfl Tryd.underlying22 (.plain rfl) rfl)
      apply Trace.og rfl
      apply Trace.pu [] ((Pure.cmp (.plain rfl) (.plain rfl) rfl).to (y := bv true) (congrArg bv (decide_eq_true rfl)))
      apply Trace.pu [] (.pick (.plain rfl) (.plain rfl) (.plain rfl))
      apply Trace.pu [] (.move (.plain rfl))
      apply Trace.og rfl
      apply Trace.pu [] ((Pure.build zo24 pl24 (.nil _ _) rfl).imp (v := .d (poolD [])) (den_aggLe (.rows .nil)))
      apply Trace.og rfl
      apply Trace.cu (callArgs0 (.cons (.plain rfl) .nil)) (checkF nil_ok (by decide) e10) en19
      apply Trace.og rfl
      apply Trace.pu [] ((Pure.cmp (.plain rfl) (.plain rfl) rfl).to (y := bv true) (congrArg bv (decide_eq_true rfl)))
      apply Trace.pu [] (.pick (.plain rfl) (.plain rfl) (.plain rfl))
      apply Trace.pu [] (.move (.plain rfl))
      apply Trace.og rfl
      apply Trace.buildRows (g := fun i => [.v (.int .i64 (([0] : List Int).getD i 0))]) so25 zo3 rfl (by decide) (by decide) (.cons (.plain rfl) rfl rfl (Nat.le_of_ble_eq_true rfl) (.nil _ _)) rfl (fun i hi => by rw [show i = 0 by omega]; rfl)
      apply Trace.og rfl
      apply Trace.pu [] ((Pure.build zo49 pl49 (.cons (.plain rfl) rfl rfl (Nat.le_of_ble_eq_true rfl) (.nil _ _)) rfl).to (y := .d (.agg t0.cells)) rfl)
      apply Trace.og rfl
      apply Trace.buildRows (g := tkRow [t0]) so22 zo49 rfl (by decide) (by decide) (.cons (.plain rfl) rfl rfl (Nat.le_of_ble_eq_true rfl) (.nil _ _)) rfl (fun i hi => by rw [show i = 0 by omega]; rfl)
      apply Trace.og rfl
      apply Trace.pu [] ((Pure.build zo24 pl24 (.cons (.plain rfl) rfl rfl (Nat.le_of_ble_eq_true rfl) (.nil _ _)) rfl).to (y := .d (poolD [t0])) rfl)
      apply Trace.og rfl
      apply Trace.cu (callArgs0 (.cons (.plain rfl) .nil)) (checkF t0s_ok (by decide) e11) en19
      apply Trace.og rfl
      apply Trace.pu [] ((Pure.cmp (.plain rfl) (.plain rfl) rfl).to (y := bv true) (congrArg bv (decide_eq_true rfl)))
      apply Trace.pu [] (.pick (.plain rfl) (.plain rfl) (.plain rfl))
      apply Trace.pu [] (.assign (.plain rfl))
      exact .nil _
    · rfl
    · exact keepOK_of hk hn rfl
    apply WPA.ret
    refine ⟨.inr rfl, ⟨_, (.cons (.tmp rfl) .nil), ?_⟩, by simp [St.get]⟩
    rfl

end Go.Proofs.YtmdfamnnnoieaaaDoor


/- PoolPutSpec, PoolMergeSpec. -/
namespace Go.Proofs.YtmdfamnnnoieaaaDoor
open Go
set_option linter.unusedVariables false
set_option linter.unusedSimpArgs false
set_option maxRecDepth 10000
set_option maxHeartbeats 4000000

theorem putE_ok {ts us : List Tk} {xs d : List Int} {e : Int} (hts : ∀ t ∈ ts, t.Ok) (hx : xs.length ≤ 1000) (hb : ∀ x ∈ xs, -9223372036854775808 ≤ x ∧ x ≤ 9223372036854775807) (h : putE ts xs = (us, d, e)) : (∀ t ∈ us, t.Ok) ∧ us.length ≤ ts.length + 1 ∧ d.length = 32 ∧ Byt d := by
  unfold putE at h
  split at h
  · split at h
    · injection h with h1 h; injection h with h2 h3; subst h1; subst h2
      exact ⟨hts, by omega, nmD_length _, nmD_byt _⟩
    · injection h with h1 h; injection h with h2 h3; subst h1; subst h2
      refine ⟨fun t ht => ?_, by rw [insE_length]; exact Nat.le_refl _, nmD_length _, nmD_byt _⟩
      rcases insE_mem.1 ht with h | h
      · exact hts t h
      · rw [h]; exact ⟨nmD_length _, nmD_byt _, hb, hx⟩
  · injection h with h1 h; injection h with h2 h3; subst h1; subst h2
    exact ⟨nil_ok, Nat.zero_le _, rfl, zero_byt⟩
theorem lookE_ok {ts : List Tk} {k xs : List Int} {b : Bool} (hts : ∀ t ∈ ts, t.Ok) (h : lookE ts k = (xs, b)) : xs.length ≤ 1000 := by
  rcases look_cases ts k with ⟨h1, _⟩ | ⟨t, ht, _, h1⟩
  · rw [h1] at h; injection h with h; subst h; simp
  · rw [h1] at h; injection h with h; subst h; exact (hts t ht).few
theorem getE_ok {ts : List Tk} {k xs : List Int} {e : Int} (hts : ∀ t ∈ ts, t.Ok) (h : getE ts k = (xs, e)) : xs.length ≤ 1000 := by
  by_cases hc : chk ts = true
  · rw [getE_look hc] at h
    injection h with h
    subst h
    exact lookE_ok hts (b := (lookE ts k).2) rfl
  · unfold getE at h
    rw [if_neg hc] at h
    injection h with h
    subst h
    simp
theorem mergeE_all {a b us : List Tk} {e : Int} (ha : ∀ t ∈ a, t.Ok) (hb : ∀ t ∈ b, t.Ok) (h : mergeE a b = (us, e)) : (∀ t ∈ us, t.Ok) ∧ us.length ≤ a.length + b.length := by
  unfold mergeE at h
  split at h
  · injection h with h; subst h
    refine ⟨fun t ht => ?_, mrg_length _ _⟩
    rcases mrg_mem a b t ht with h | h
    · exact ha t h
    · exact hb t h
  · injection h with h; subst h
    exact ⟨nil_ok, Nat.zero_le _⟩
theorem collectE_all {ts us : List Tk} {ks : List (List Int)} {e : Int} (hts : ∀ t ∈ ts, t.Ok) (h : collectE ts ks = (us, e)) : (∀ t ∈ us, t.Ok) ∧ us.length ≤ ts.length := by
  unfold collectE at h
  split at h
  · injection h with h; subst h
    exact ⟨fun t ht => hts t (List.mem_filter.1 ht).1, List.length_filter_le _ _⟩
  · injection h with h; subst h
    exact ⟨nil_ok, Nat.zero_le _⟩
/-- soundpost/soundpostlaw25.PoolPutSpec -/
theorem spec3 (ts : List Tk) (ht0 : ∀ t ∈ ts, t.Ok0) (xs : List Int) (hxl : xs.length ≤ 140737488355328) (hb : ∀ x ∈ xs, -9223372036854775808 ≤ x ∧ x ≤ 9223372036854775807) (k : List Int) (hkl : k.length = 32) (hkb : Byt k) : FnSpec Tryd.prog 3 [.d (poolD ts), .d (intsD xs), .d (byD k)] [] (bv true) [] [] := by
  refine fnSpec_of (rs := [.tmp 6]) Tryd.func3 rfl rfl (Nat.le_of_ble_eq_true rfl) (by simp [St.get]) fun E hk hn => ?_
  apply WPA.seq
  apply WPA.region
  · apply Trace.boxD 3 [] (.plain rfl) rfl rfl
    apply Trace.boxD 5 [] (.plain rfl) rfl rfl
    apply Trace.pu [] (.assign (.plain rfl))
    exact .nil _
  · exact keepOK_of hk hn rfl
  apply WPA.seq
  apply WPA.seq
  apply WPA.region
  · apply Trace.cu (callArgs0 .nil) spec9 en9
    apply Trace.pu [] (.not (.plain rfl))
    exact .nil _
  · exact keepOK_of hk hn rfl
  refine WPA.cond rfl (fun hc1 => ?_) (fun hc1 => ?_)
  · cases hc1
  · apply WPA.skip
    apply WPA.seq
    apply WPA.seq
    apply WPA.region
    · apply Trace.pu [_] (.loadAllD ty24 (.plain rfl) rfl rfl)
      apply Trace.cu (callArgs0 (.cons (.plain rfl) .nil)) (spec10 ts ht0) en10
      apply Trace.pu [] (.not (.plain rfl))
      apply Trace.pu [] (.move (.plain rfl))
      apply Trace.pg [] rfl (.move (.plain rfl))
      apply Trace.pg [] rfl (.len rfl Tryd.underlying25 (.gd rfl (fun h => h)) rfl)
      apply Trace.pg [] rfl (.cmp (.gd rfl (fun h => h)) (.plain rfl) rfl)
      apply Trace.pu [] (.pick (.plain rfl) (.plain rfl) (.gd rfl (by simp)))
      exact .nil _
    · exact keepOK_of hk hn rfl
    refine WPA.cond rfl (fun hc2 => ?_) (fun hc2 => ?_)
    · apply WPA.seq
      apply WPA.region
      · apply Trace.pu [] (.assign (.plain rfl))
        exact .nil _
      · exact keepOK_of hk hn rfl
      apply WPA.ret
      refine ⟨.inr rfl, ⟨_, (.cons (.tmp rfl) .nil), ?_⟩, by simp [St.get]⟩
      rfl
    · have hf : fewB ts = true ∧ xs.length ≤ 200 := by
        cases h : fewB ts with
        | false => rw [h] at hc2; simp at hc2
        | true => rw [h] at hc2; simp at hc2; exact ⟨rfl, by omega⟩
      obtain ⟨hf, hx⟩ := hf
      obtain ⟨h8, hto⟩ := fewB_ok ht0 hf
      have hts : ∀ t ∈ ts, t.Ok := fun t h => (hto t h).1
      obtain ⟨us, d, e, hP⟩ : ∃ us d e, putE ts xs = (us, d, e) := ⟨_, _, _, rfl⟩
      obtain ⟨huo, hul, hdl, hdb⟩ := putE_ok hts (by omega) hb hP
      obtain ⟨gx, ge, hG⟩ : ∃ gx ge, getE ts k = (gx, ge) := ⟨_, _, rfl⟩
      have hgl := getE_ok hts hG
      obtain ⟨lx, lb, hL⟩ : ∃ lx lb, lookE ts k = (lx, lb) := ⟨_, _, rfl⟩
      have hll := lookE_ok hts hL
      apply WPA.skip
      apply WPA.seq
      apply WPA.region
      · apply Trace.pu [_] (.loadAllD ty24 (.plain rfl) rfl rfl)
        apply Trace.pu [] (.move (.plain rfl))
        apply Trace.ct (callArgs0 (.cons (.plain rfl) (.cons (.plain rfl) .nil))) (putF hts (by omega) (by omega) hb hP) en11
        apply Trace.pu [] (.move (.plain rfl))
        apply Trace.pu [] (.extract (.plain rfl) rfl)
        apply Trace.pu [] (.extract (.plain rfl) rfl)
        apply Trace.pu [] (.extract (.plain rfl) rfl)
        apply Trace.alloc 7 [] (.data _) zo24 (cellsAs_data _) rfl
        apply Trace.alloc 8 [] (.data (List.replicate 32 (D.v (.int .u8 0)))) zo27 (cellsAs_data _) rfl
        apply Trace.storeD ty24 (.plain rfl) (.plain rfl) rfl rfl rfl (by simp [AV.oneB, single]) (Nat.le_of_ble_eq_true rfl) rfl
        apply Trace.storeD (cs' := d.map fun x => .v (.int .u8 x)) ty27 (.plain rfl) (.plain rfl) rfl rfl (by simp [hdl]) (by_one _) (by decide) (spliceL_all (by simp [hdl]))
        apply Trace.pu [] (.assign (.plain rfl))
        exact .nil _
      · exact keepOK_of hk hn rfl
      apply WPA.seq
      apply WPA.region
      · apply Trace.pu [_] (.loadAllD ty24 (.plain rfl) rfl rfl)
        apply Trace.pu [] (.move (.plain rfl))
        apply Trace.ct (callArgs0 (.cons (.plain rfl) (.cons (.plain rfl) .nil))) (putR hts (by omega) (by omega) hb hP) en12
        apply Trace.pu [] (.move (.plain rfl))
        apply Trace.pu [] (.extract (.plain rfl) rfl)
        apply Trace.pu [] (.extract (.plain rfl) rfl)
        apply Trace.pu [] (.extract (.plain rfl) rfl)
        apply Trace.alloc 10 [] (.data _) zo24 (cellsAs_data _) rfl
        apply Trace.alloc 11 [] (.data (List.replicate 32 (D.v (.int .u8 0)))) zo27 (cellsAs_data _) rfl
        apply Trace.storeD ty24 (.plain rfl) (.plain rfl) rfl rfl rfl (by simp [AV.oneB, single]) (Nat.le_of_ble_eq_true rfl) rfl
        apply Trace.storeD (cs' := d.map fun x => .v (.int .u8 x)) ty27 (.plain rfl) (.plain rfl) rfl rfl (by simp [hdl]) (by_one _) (by decide) (spliceL_all (by simp [hdl]))
        apply Trace.pu [] (.assign (.plain rfl))
        exact .nil _
      · exact keepOK_of hk hn rfl
      apply WPA.seq
      apply WPA.region
      · apply Trace.pu [_] (.loadAllD ty24 (.plain rfl) rfl rfl)
        apply Trace.pu [_] (.loadAllD ty27 (.plain rfl) rfl (by simp [hkl]))
        apply Trace.ct (callArgs0 (.cons (.plain rfl) (.cons (.plain rfl) .nil))) (getF hts (by omega) hkl hkb hG) en13
        apply Trace.pu [] (.move (.plain rfl))
        apply Trace.pu [] (.extract (.plain rfl) rfl)
        apply Trace.pu [] (.extract (.plain rfl) rfl)
        apply Trace.pu [] (.assign (.plain rfl))
        apply Trace.pu [] (.assign (.plain rfl))
        exact .nil _
      · exact keepOK_of hk hn rfl
      apply WPA.seq
      apply WPA.region
      · apply Trace.pu [_] (.loadAllD ty24 (.plain rfl) rfl rfl)
        apply Trace.pu [_] (.loadAllD ty27 (.plain rfl) rfl (by simp [hkl]))
        apply Trace.ct (callArgs0 (.cons (.plain rfl) (.cons (.plain rfl) .nil))) (getR hts (by omega) hkl hkb hG) en14
        apply Trace.pu [] (.move (.plain rfl))
        apply Trace.pu [] (.extract (.plain rfl) rfl)
        apply Trace.pu [] (.extract (.plain rfl) rfl)
        apply Trace.pu [] (.assign (.plain rfl))
        apply Trace.pu [] (.assign (.plain rfl))
        exact .nil _
      · exact keepOK_of hk hn rfl
      apply WPA.seq
      apply WPA.region
      · apply Trace.pu [_] (.loadAllD ty24 (.plain rfl) rfl rfl)
        apply Trace.pu [_] (.loadAllD ty27 (.plain rfl) rfl (by simp [hkl]))
        apply Trace.ct (callArgs0 (.cons (.plain rfl) (.cons (.plain rfl) .nil))) (lookF hts (by omega) hkl hkb hL) en15
        apply Trace.pu [] (.move (.plain rfl))
        apply Trace.pu [] (.extract (.plain rfl) rfl)
        apply Trace.pu [] (.extract (.plain rfl) rfl)
        apply Trace.pu [] (.assign (.plain rfl))
        apply Trace.pu [] (.assign (.plain rfl))
        exact .nil _
      · exact keepOK_of hk hn rfl
      apply WPA.seq
      apply WPA.region
      · apply Trace.pu [_] (.loadAllD ty24 (.plain rfl) rfl rfl)
        apply Trace.pu [_] (.loadAllD ty27 (.plain rfl) rfl (by simp [hkl]))
        apply Trace.ct (callArgs0 (.cons (.plain rfl) (.cons (.plain rfl) .nil))) (lookR hts (by omega) hkl hkb hL) en16
        apply Trace.pu [] (.move (.plain rfl))
        apply Trace.pu [] (.extract (.plain rfl) rfl)
        apply Trace.pu [] (.extract (.plain rfl) rfl)
        apply Trace.pu [] (.assign (.plain rfl))
        apply Trace.pu [] (.assign (.plain rfl))
        exact .nil _
      · exact keepOK_of hk hn rfl
      apply WPA.seq
      apply WPA.draw mixed
      · apply Trace.pu [_] (.loadAllD ty24 (.plain rfl) rfl rfl)
        apply Trace.pu [_] (.loadAllD ty24 (.plain rfl) rfl rfl)
        apply Trace.cu (callArgs0 (.cons (.plain rfl) (.cons (.plain rfl) .nil))) (sameT huo (by omega) huo (by omega) (decide_eq_true rfl)) en17
        apply Trace.pu [] (.move (.plain rfl))
        apply Trace.og rfl
        apply Trace.pu [_] (.loadAllD ty27 (.plain rfl) rfl (by simp [hdl]))
        apply Trace.og rfl
        apply Trace.pu [_] (.loadAllD ty27 (.plain rfl) rfl (by simp [hdl]))
        apply Trace.og rfl
        apply Trace.pu [] ((Pure.aeq ba27 (.plain rfl) (.plain rfl) (fun _ => hdl) (fun _ => hdl)).to (y := bv true) (congrArg bv (decide_eq_true rfl)))
        apply Trace.pu [] (.pick (.plain rfl) (.plain rfl) (.plain rfl))
        apply Trace.pu [] (.move (.plain rfl))
        apply Trace.og rfl
        apply Trace.pu [] (.move (.plain rfl))
        apply Trace.og rfl
        apply Trace.pu [] (.move (.plain rfl))
        apply Trace.og rfl
        apply Trace.pu [] ((Pure.cmp (.plain rfl) (.plain rfl) rfl).to (y := bv true) (congrArg bv (decide_eq_true rfl)))
        apply Trace.pu [] (.pick (.plain rfl) (.plain rfl) (.plain rfl))
        apply Trace.pu [] (.move (.plain rfl))
        apply Trace.og rfl
        apply Trace.pu [] (.move (.plain rfl))
        apply Trace.og rfl
        apply Trace.pu [] (.move (.plain rfl))
        apply Trace.og rfl
        apply Trace.cu (callArgs0 (.cons (.plain rfl) (.cons (.plain rfl) .nil))) (intsT hgl hgl (decide_eq_true rfl)) en18
        apply Trace.pu [] (.pick (.plain rfl) (.plain rfl) (.plain rfl))
        apply Trace.pu [] (.move (.plain rfl))
        apply Trace.og rfl
        apply Trace.pu [] (.move (.plain rfl))
        apply Trace.og rfl
        apply Trace.pu [] (.move (.plain rfl))
        apply Trace.og rfl
        apply Trace.pu [] ((Pure.cmp (.plain rfl) (.plain rfl) rfl).to (y := bv true) (congrArg bv (decide_eq_true rfl)))
        apply Trace.pu [] (.pick (.plain rfl) (.plain rfl) (.plain rfl))
        apply Trace.pu [] (.move (.plain rfl))
        apply Trace.og rfl
        apply Trace.pu [] (.move (.plain rfl))
        apply Trace.og rfl
        apply Trace.pu [] (.move (.plain rfl))
        apply Trace.og rfl
        apply Trace.cu (callArgs0 (.cons (.plain rfl) (.cons (.plain rfl) .nil))) (intsT hll hll (decide_eq_true rfl)) en18
        apply Trace.pu [] (.pick (.plain rfl) (.plain rfl) (.plain rfl))
        apply Trace.pu [] (.move (.plain rfl))
        apply Trace.og rfl
        apply Trace.pu [] (.move (.plain rfl))
        apply Trace.og rfl
        apply Trace.pu [] (.move (.plain rfl))
        apply Trace.og rfl
        apply Trace.pu [] ((Pure.beq Tryd.underlying4 (.plain rfl) (.plain rfl)).to (y := bv true) (by cases lb <;> rfl))
        apply Trace.pu [] (.pick (.plain rfl) (.plain rfl) (.plain rfl))
        apply Trace.pu [] (.move (.plain rfl))
        apply Trace.og rfl
        apply Trace.pu [_] (.loadAllD ty24 (.plain rfl) rfl rfl)
        apply Trace.og rfl
        apply Trace.cu (callArgs0 (.cons (.plain rfl) .nil)) (checkF hts (by omega) (e := ckE ts) rfl) en19
        apply Trace.og rfl
        apply Trace.pu [_] (.loadAllD ty24 (.plain rfl) rfl rfl)
        apply Trace.og rfl
        apply Trace.cu (callArgs0 (.cons (.plain rfl) .nil)) (checkR hts (by omega) (e := ckE ts) rfl) en20
        apply Trace.og rfl
        apply Trace.pu [] ((Pure.cmp (.plain rfl) (.plain rfl) rfl).to (y := bv true) (congrArg bv (decide_eq_true rfl)))
        apply Trace.pu [] (.pick (.plain rfl) (.plain rfl) (.plain rfl))
        apply Trace.pu [] (.assign (.plain rfl))
        exact .nil _
      · rfl
      · exact keepOK_of hk hn rfl
      apply WPA.ret
      refine ⟨.inr rfl, ⟨_, (.cons (.tmp rfl) .nil), ?_⟩, by simp [St.get]⟩
      rfl
/-- soundpost/soundpostlaw25.PoolMergeSpec -/
theorem spec4 (ts vs : List Tk) (ht0 : ∀ t ∈ ts, t.Ok0) (hv0 : ∀ t ∈ vs, t.Ok0) (ks : List (List Int)) (hkn0 : ks.length ≤ 140737488355328) (hks : ∀ k ∈ ks, k.length = 32) : FnSpec Tryd.prog 4 [.d (poolD ts), .d (poolD vs), .d (digsD ks)] [] (bv true) [] [] := by
  refine fnSpec_of (rs := [.tmp 6]) Tryd.func4 rfl rfl (Nat.le_of_ble_eq_true rfl) (by simp [St.get]) fun E hk hn => ?_
  apply WPA.seq
  apply WPA.region
  · apply Trace.boxD 3 [] (.plain rfl) rfl rfl
    apply Trace.boxD 4 [] (.plain rfl) rfl rfl
    apply Trace.pu [] (.assign (.plain rfl))
    exact .nil _
  · exact keepOK_of hk hn rfl
  apply WPA.seq
  apply WPA.seq
  apply WPA.region
  · apply Trace.cu (callArgs0 .nil) spec9 en9
    apply Trace.pu [] (.not (.plain rfl))
    exact .nil _
  · exact keepOK_of hk hn rfl
  refine WPA.cond rfl (fun hc1 => ?_) (fun hc1 => ?_)
  · cases hc1
  · apply WPA.skip
    apply WPA.seq
    apply WPA.seq
    apply WPA.region
    · apply Trace.pu [_] (.loadAllD ty24 (.plain rfl) rfl rfl)
      apply Trace.cu (callArgs0 (.cons (.plain rfl) .nil)) (spec10 ts ht0) en10
      apply Trace.pu [] (.not (.plain rfl))
      apply Trace.pu [] (.move (.plain rfl))
      apply Trace.pg [_] rfl (.loadAllD ty24 (.plain rfl) rfl rfl)
      apply Trace.cg rfl (callArgs0 (.cons (.gd rfl (fun h => h)) .nil)) (fun h => spec10 vs hv0) en10
      apply Trace.pg [] rfl (.not (.gd rfl (fun h => h)))
      apply Trace.pu [] (.pick (.plain rfl) (.plain rfl) (.gd rfl (by simp)))
      apply Trace.pu [] (.move (.plain rfl))
      apply Trace.pg [] rfl (.move (.plain rfl))
      apply Trace.pg [] rfl (.len rfl Tryd.underlying41 (.gd rfl (fun h => h)) rfl)
      apply Trace.pg [] rfl (.cmp (.gd rfl (fun h => h)) (.plain rfl) rfl)
      apply Trace.pu [] (.pick (.plain rfl) (.plain rfl) (.gd rfl (by simp)))
      exact .nil _
    · exact keepOK_of hk hn rfl
    refine WPA.cond rfl (fun hc2 => ?_) (fun hc2 => ?_)
    · apply WPA.seq
      apply WPA.region
      · apply Trace.pu [] (.assign (.plain rfl))
        exact .nil _
      · exact keepOK_of hk hn rfl
      apply WPA.ret
      refine ⟨.inr rfl, ⟨_, (.cons (.tmp rfl) .nil), ?_⟩, by simp [St.get]⟩
      rfl
    · have hf : fewB ts = true ∧ fewB vs = true ∧ ks.length ≤ 20 := by
        cases h : fewB ts with
        | false => rw [h] at hc2; simp at hc2
        | true =>
          cases h2 : fewB vs with
          | false => rw [h, h2] at hc2; simp at hc2
          | true => rw [h, h2] at hc2; simp at hc2; exact ⟨rfl, rfl, by omega⟩
      obtain ⟨hf, hf2, hkn⟩ := hf
      obtain ⟨h8, hto⟩ := fewB_ok ht0 hf
      have hts : ∀ t ∈ ts, t.Ok := fun t h => (hto t h).1
      obtain ⟨h82, hto2⟩ := fewB_ok hv0 hf2
      have hvs : ∀ t ∈ vs, t.Ok := fun t h => (hto2 t h).1
      obtain ⟨us, e, hM⟩ : ∃ us e, mergeE ts vs = (us, e) := ⟨_, _, rfl⟩
      obtain ⟨huo, hul⟩ := mergeE_all hts hvs hM
      obtain ⟨ws, e2, hC⟩ : ∃ us e, collectE ts ks = (us, e) := ⟨_, _, rfl⟩
      obtain ⟨hwo, hwl⟩ := collectE_all hts hC
      apply WPA.skip
      apply WPA.seq
      apply WPA.region
      · apply Trace.pu [_] (.loadAllD ty24 (.plain rfl) rfl rfl)
        apply Trace.pu [_] (.loadAllD ty24 (.plain rfl) rfl rfl)
        apply Trace.ct (callArgs0 (.cons (.plain rfl) (.cons (.plain rfl) .nil))) (mergeF hts (by omega) hvs (by omega) hM) en21
        apply Trace.pu [] (.move (.plain rfl))
        apply Trace.pu [] (.extract (.plain rfl) rfl)
        apply Trace.pu [] (.extract (.plain rfl) rfl)
        apply Trace.alloc 7 [] (.data _) zo24 (cellsAs_data _) rfl
        apply Trace.storeD ty24 (.plain rfl) (.plain rfl) rfl rfl rfl (by simp [AV.oneB, single]) (Nat.le_of_ble_eq_true rfl) rfl
        apply Trace.pu [] (.assign (.plain rfl))
        exact .nil _
      · exact keepOK_of hk hn rfl
      apply WPA.seq
      apply WPA.region
      · apply Trace.pu [_] (.loadAllD ty24 (.plain rfl) rfl rfl)
        apply Trace.pu [_] (.loadAllD ty24 (.plain rfl) rfl rfl)
        apply Trace.ct (callArgs0 (.cons (.plain rfl) (.cons (.plain rfl) .nil))) (mergeR hts (by omega) hvs (by omega) hM) en22
        apply Trace.pu [] (.move (.plain rfl))
        apply Trace.pu [] (.extract (.plain rfl) rfl)
        apply Trace.pu [] (.extract (.plain rfl) rfl)
        apply Trace.alloc 9 [] (.data _) zo24 (cellsAs_data _) rfl
        apply Trace.storeD ty24 (.plain rfl) (.plain rfl) rfl rfl rfl (by simp [AV.oneB, single]) (Nat.le_of_ble_eq_true rfl) rfl
        apply Trace.pu [] (.assign (.plain rfl))
        exact .nil _
      · exact keepOK_of hk hn rfl
      apply WPA.seq
      apply WPA.region
      · apply Trace.pu [_] (.loadAllD ty24 (.plain rfl) rfl rfl)
        apply Trace.pu [] (.move (.plain rfl))
        apply Trace.ct (callArgs0 (.cons (.plain rfl) (.cons (.plain rfl) .nil))) (collectF hts (by omega) hks (by omega) hC) en23
        apply Trace.pu [] (.move (.plain rfl))
        apply Trace.pu [] (.extract (.plain rfl) rfl)
        apply Trace.pu [] (.extract (.plain rfl) rfl)
        apply Trace.alloc 11 [] (.data _) zo24 (cellsAs_data _) rfl
        apply Trace.storeD ty24 (.plain rfl) (.plain rfl) rfl rfl rfl (by simp [AV.oneB, single]) (Nat.le_of_ble_eq_true rfl) rfl
        apply Trace.pu [] (.assign (.plain rfl))
        exact .nil _
      · exact keepOK_of hk hn rfl
      apply WPA.seq
      apply WPA.region
      · apply Trace.pu [_] (.loadAllD ty24 (.plain rfl) rfl rfl)
        apply Trace.pu [] (.move (.plain rfl))
        apply Trace.ct (callArgs0 (.cons (.plain rfl) (.cons (.plain rfl) .nil))) (collectR hts (by omega) hks (by omega) hC) en24
        apply Trace.pu [] (.move (.plain rfl))
        apply Trace.pu [] (.extract (.plain rfl) rfl)
        apply Trace.pu [] (.extract (.plain rfl) rfl)
        apply Trace.alloc 13 [] (.data _) zo24 (cellsAs_data _) rfl
        apply Trace.storeD ty24 (.plain rfl) (.plain rfl) rfl rfl rfl (by simp [AV.oneB, single]) (Nat.le_of_ble_eq_true rfl) rfl
        apply Trace.pu [] (.assign (.plain rfl))
        exact .nil _
      · exact keepOK_of hk hn rfl
      apply WPA.seq
      apply WPA.region
      · apply Trace.pu [_] (.loadAllD ty24 (.plain rfl) rfl rfl)
        apply Trace.pu [_] (.loadAllD ty24 (.plain rfl) rfl rfl)
        apply Trace.cu (callArgs0 (.cons (.plain rfl) (.cons (.plain rfl) .nil))) (sameT huo (by omega) huo (by omega) (decide_eq_true rfl)) en17
        apply Trace.pu [] (.move (.plain rfl))
        apply Trace.og rfl
        apply Trace.pu [] (.move (.plain rfl))
        apply Trace.og rfl
        apply Trace.pu [] (.move (.plain rfl))
        apply Trace.og rfl
        apply Trace.pu [] ((Pure.cmp (.plain rfl) (.plain rfl) rfl).to (y := bv true) (congrArg bv (decide_eq_true rfl)))
        apply Trace.pu [] (.pick (.plain rfl) (.plain rfl) (.plain rfl))
        apply Trace.pu [] (.move (.plain rfl))
        apply Trace.og rfl
        apply Trace.pu [_] (.loadAllD ty24 (.plain rfl) rfl rfl)
        apply Trace.og rfl
        apply Trace.pu [_] (.loadAllD ty24 (.plain rfl) rfl rfl)
        apply Trace.og rfl
        apply Trace.cu (callArgs0 (.cons (.plain rfl) (.cons (.plain rfl) .nil))) (sameT hwo (by omega) hwo (by omega) (decide_eq_true rfl)) en17
        apply Trace.pu [] (.pick (.plain rfl) (.plain rfl) (.plain rfl))
        apply Trace.pu [] (.move (.plain rfl))
        apply Trace.og rfl
        apply Trace.pu [] (.move (.plain rfl))
        apply Trace.og rfl
        apply Trace.pu [] (.move (.plain rfl))
        apply Trace.og rfl
        apply Trace.pu [] ((Pure.cmp (.plain rfl) (.plain rfl) rfl).to (y := bv true) (congrArg bv (decide_eq_true rfl)))
        apply Trace.pu [] (.pick (.plain rfl) (.plain rfl) (.plain rfl))
        apply Trace.pu [] (.assign (.plain rfl))
        exact .nil _
      · exact keepOK_of hk hn rfl
      apply WPA.ret
      refine ⟨.inr rfl, ⟨_, (.cons (.tmp rfl) .nil), ?_⟩, by simp [St.get]⟩
      rfl

end Go.Proofs.YtmdfamnnnoieaaaDoor

