import Derived.Test.YtmdfamnnnoieaaaDoorPkC
import Derived.Test.YtmdfamnnnoieaaaDoorPkP
import Derived.Test.YtmdfamnnnoieaaaDoorPkQ
/- soundpostref02: words, blocks, padding, Sum, Tagged: the same model. -/
namespace Go.Proofs.YtmdfamnnnoieaaaDoor
open Go
set_option linter.unusedVariables false
set_option linter.unusedSimpArgs false
set_option maxRecDepth 10000
set_option maxHeartbeats 2000000

theorem wst {x y : W} (h : x = y) : some (Cont.av (wv x)) = some (Cont.av (wv y)) := by rw [h]
theorem kk_at {k i : Nat} (e : k = i) (h : i < 64) : AV.d (Col.at (.ints .u32 (kk.map wi)) k) = wv (kk.getD i 0) := by
  subst e
  have hl : kk.length = 64 := rfl
  exact congrArg (fun n => iv .u32 n) (by simp [List.getD_eq_getElem?_getD, List.getElem?_eq_getElem (show k < kk.length by omega)])
/-- soundpost/soundpostref02.word -/
theorem spec73 (b : List Int) (n : Nat) (g : Nat → List D) (hn : 4 ≤ n) (hg : ∀ i, i < 4 → g i = [.v (.int .u8 (b.getD i 0))]) : FnSpec Tryd.prog 73 [.d (.rows 1 n g)] [] (wv (word4 (b.getD 0 0) (b.getD 1 0) (b.getD 2 0) (b.getD 3 0))) [] [] := by
  refine fnSpec_of (rs := [.tmp 2]) Tryd.func73 rfl rfl (Nat.le_of_ble_eq_true rfl) (by simp [St.get]) fun E hk hn => ?_
  apply WPA.seq
  apply WPA.region
  · apply Trace.pu [] (.assign (.plain rfl))
    exact .nil _
  · exact keepOK_of hk hn rfl
  apply WPA.seq
  apply WPA.draw mixed
  · apply Trace.pu [] (.move (.plain rfl))
    first | apply Trace.pu [] (.indexRows el54 (.plain rfl) (.plain rfl) (fun _ => ⟨by omega, by omega⟩)) | apply Trace.pu [] (.indexOwn el54 (.plain rfl) (.plain rfl) (fun _ => ⟨by omega, by omega⟩)) | apply Trace.pu [] (.indexSl el54 (.plain rfl) (.plain rfl) (fun _ => ⟨by omega, by omega⟩)) | apply Trace.pu [] (.indexSa el54 (.plain rfl) (.plain rfl) (fun _ => ⟨by omega, by omega⟩))
    apply Trace.pu [] ((Pure.loadRp1 ty5 (.plain rfl) (r := .v (.int .u8 (b.getD 0 0))) (by show (g ((0 : Int)).toNat)[0]? = _; rw [show ((0 : Int)).toNat = 0 from rfl, hg 0 (by decide)]; rfl)))
    apply Trace.pu [] (.wconv Tryd.underlying5 Tryd.underlying93 (.plain rfl))
    apply Trace.pu [] (.wshl (.plain rfl) (.plain rfl) (fun _ => by decide) (fun _ => by decide))
    apply Trace.pu [] (.move (.plain rfl))
    first | apply Trace.pu [] (.indexRows el54 (.plain rfl) (.plain rfl) (fun _ => ⟨by omega, by omega⟩)) | apply Trace.pu [] (.indexOwn el54 (.plain rfl) (.plain rfl) (fun _ => ⟨by omega, by omega⟩)) | apply Trace.pu [] (.indexSl el54 (.plain rfl) (.plain rfl) (fun _ => ⟨by omega, by omega⟩)) | apply Trace.pu [] (.indexSa el54 (.plain rfl) (.plain rfl) (fun _ => ⟨by omega, by omega⟩))
    apply Trace.pu [] ((Pure.loadRp1 ty5 (.plain rfl) (r := .v (.int .u8 (b.getD 1 0))) (by show (g ((1 : Int)).toNat)[0]? = _; rw [show ((1 : Int)).toNat = 1 from rfl, hg 1 (by decide)]; rfl)))
    apply Trace.pu [] (.wconv Tryd.underlying5 Tryd.underlying93 (.plain rfl))
    apply Trace.pu [] (.wshl (.plain rfl) (.plain rfl) (fun _ => by decide) (fun _ => by decide))
    apply Trace.pu [] (.wor (.plain rfl) (.plain rfl))
    apply Trace.pu [] (.move (.plain rfl))
    first | apply Trace.pu [] (.indexRows el54 (.plain rfl) (.plain rfl) (fun _ => ⟨by omega, by omega⟩)) | apply Trace.pu [] (.indexOwn el54 (.plain rfl) (.plain rfl) (fun _ => ⟨by omega, by omega⟩)) | apply Trace.pu [] (.indexSl el54 (.plain rfl) (.plain rfl) (fun _ => ⟨by omega, by omega⟩)) | apply Trace.pu [] (.indexSa el54 (.plain rfl) (.plain rfl) (fun _ => ⟨by omega, by omega⟩))
    apply Trace.pu [] ((Pure.loadRp1 ty5 (.plain rfl) (r := .v (.int .u8 (b.getD 2 0))) (by show (g ((2 : Int)).toNat)[0]? = _; rw [show ((2 : Int)).toNat = 2 from rfl, hg 2 (by decide)]; rfl)))
    apply Trace.pu [] (.wconv Tryd.underlying5 Tryd.underlying93 (.plain rfl))
    apply Trace.pu [] (.wshl (.plain rfl) (.plain rfl) (fun _ => by decide) (fun _ => by decide))
    apply Trace.pu [] (.wor (.plain rfl) (.plain rfl))
    apply Trace.pu [] (.move (.plain rfl))
    first | apply Trace.pu [] (.indexRows el54 (.plain rfl) (.plain rfl) (fun _ => ⟨by omega, by omega⟩)) | apply Trace.pu [] (.indexOwn el54 (.plain rfl) (.plain rfl) (fun _ => ⟨by omega, by omega⟩)) | apply Trace.pu [] (.indexSl el54 (.plain rfl) (.plain rfl) (fun _ => ⟨by omega, by omega⟩)) | apply Trace.pu [] (.indexSa el54 (.plain rfl) (.plain rfl) (fun _ => ⟨by omega, by omega⟩))
    apply Trace.pu [] ((Pure.loadRp1 ty5 (.plain rfl) (r := .v (.int .u8 (b.getD 3 0))) (by show (g ((3 : Int)).toNat)[0]? = _; rw [show ((3 : Int)).toNat = 3 from rfl, hg 3 (by decide)]; rfl)))
    apply Trace.pu [] (.wconv Tryd.underlying5 Tryd.underlying93 (.plain rfl))
    apply Trace.pu [] (.wor (.plain rfl) (.plain rfl))
    apply Trace.pu [] (.assign (.plain rfl))
    exact .nil _
  · rfl
  · exact keepOK_of hk hn rfl
  apply WPA.ret
  refine ⟨.inr rfl, ⟨_, (.cons (.tmp rfl) .nil), ?_⟩, by simp [St.get]⟩
  rfl
/-- soundpost/soundpostref02.ror -/
theorem spec74 (x : W) (k : Nat) (hk32 : 0 < k ∧ k < 32) : FnSpec Tryd.prog 74 [wv x, iv .i64 k] [] (wv (rr x k)) [] [] := by
  refine fnSpec_of (rs := [.tmp 4]) Tryd.func74 rfl rfl (Nat.le_of_ble_eq_true rfl) (by simp [St.get]) fun E hk hn => ?_
  apply WPA.seq
  apply WPA.region
  · apply Trace.pu [] (.assign (.plain rfl))
    exact .nil _
  · exact keepOK_of hk hn rfl
  apply WPA.seq
  apply WPA.draw mixed
  · apply Trace.pu [] (.move (.plain rfl))
    apply Trace.pu [] (.move (.plain rfl))
    apply Trace.pu [] (.wshr (.plain rfl) (.plain rfl) (fun _ => by omega) (fun _ => by omega))
    apply Trace.pu [] (.move (.plain rfl))
    apply Trace.pu [] (.move (.plain rfl))
    apply Trace.pu [] (.arith (.plain rfl) (.plain rfl) rfl (fun _ => bd64 (by omega)))
    apply Trace.pu [] (.wshl (.plain rfl) (.plain rfl) (fun _ => by omega) (fun _ => by omega))
    apply Trace.pu [] (.wor (.plain rfl) (.plain rfl))
    apply Trace.pu [] (.assign (.plain rfl))
    exact .nil _
  · rfl
  · exact keepOK_of hk hn rfl
  apply WPA.ret
  refine ⟨.inr rfl, ⟨_, (.cons (.tmp rfl) .nil), ?_⟩, by simp [St.get]⟩
  exact wv_eq (by unfold rr; rw [Int.toNat_natCast, show ((32 : Int) - k).toNat = 32 - k by omega])
/-- soundpost/soundpostref02.numbers -/
theorem spec75  : FnSpec Tryd.prog 75 [] [] (.d (.agg (kk.map fun x => D.v (.int .u32 (wi x))))) [] [] := by
  refine fnSpec_of (rs := [.cell 0 106]) Tryd.func75 rfl rfl (Nat.le_of_ble_eq_true rfl) (by simp [St.get]) fun E hk hn => ?_
  apply WPA.seq
  apply WPA.region
  · apply Trace.alloc 0 [] (.data (List.replicate 64 (.v (.int .u32 0)))) zo106 (cellsAs_data _) rfl
    exact .nil _
  · exact keepOK_of hk hn rfl
  apply WPA.seq
  apply WPA.region
  · apply Trace.pu [] ((Pure.build zo106 pl106 (.cons (.plain rfl) rfl rfl (Nat.le_of_ble_eq_true rfl) (.cons (.plain rfl) rfl rfl (Nat.le_of_ble_eq_true rfl) (.cons (.plain rfl) rfl rfl (Nat.le_of_ble_eq_true rfl) (.cons (.plain rfl) rfl rfl (Nat.le_of_ble_eq_true rfl) (.cons (.plain rfl) rfl rfl (Nat.le_of_ble_eq_true rfl) (.cons (.plain rfl) rfl rfl (Nat.le_of_ble_eq_true rfl) (.cons (.plain rfl) rfl rfl (Nat.le_of_ble_eq_true rfl) (.cons (.plain rfl) rfl rfl (Nat.le_of_ble_eq_true rfl) (.cons (.plain rfl) rfl rfl (Nat.le_of_ble_eq_true rfl) (.cons (.plain rfl) rfl rfl (Nat.le_of_ble_eq_true rfl) (.cons (.plain rfl) rfl rfl (Nat.le_of_ble_eq_true rfl) (.cons (.plain rfl) rfl rfl (Nat.le_of_ble_eq_true rfl) (.cons (.plain rfl) rfl rfl (Nat.le_of_ble_eq_true rfl) (.cons (.plain rfl) rfl rfl (Nat.le_of_ble_eq_true rfl) (.cons (.plain rfl) rfl rfl (Nat.le_of_ble_eq_true rfl) (.cons (.plain rfl) rfl rfl (Nat.le_of_ble_eq_true rfl) (.cons (.plain rfl) rfl rfl (Nat.le_of_ble_eq_true rfl) (.cons (.plain rfl) rfl rfl (Nat.le_of_ble_eq_true rfl) (.cons (.plain rfl) rfl rfl (Nat.le_of_ble_eq_true rfl) (.cons (.plain rfl) rfl rfl (Nat.le_of_ble_eq_true rfl) (.cons (.plain rfl) rfl rfl (Nat.le_of_ble_eq_true rfl) (.cons (.plain rfl) rfl rfl (Nat.le_of_ble_eq_true rfl) (.cons (.plain rfl) rfl rfl (Nat.le_of_ble_eq_true rfl) (.cons (.plain rfl) rfl rfl (Nat.le_of_ble_eq_true rfl) (.cons (.plain rfl) rfl rfl (Nat.le_of_ble_eq_true rfl) (.cons (.plain rfl) rfl rfl (Nat.le_of_ble_eq_true rfl) (.cons (.plain rfl) rfl rfl (Nat.le_of_ble_eq_true rfl) (.cons (.plain rfl) rfl rfl (Nat.le_of_ble_eq_true rfl) (.cons (.plain rfl) rfl rfl (Nat.le_of_ble_eq_true rfl) (.cons (.plain rfl) rfl rfl (Nat.le_of_ble_eq_true rfl) (.cons (.plain rfl) rfl rfl (Nat.le_of_ble_eq_true rfl) (.cons (.plain rfl) rfl rfl (Nat.le_of_ble_eq_true rfl) (.cons (.plain rfl) rfl rfl (Nat.le_of_ble_eq_true rfl) (.cons (.plain rfl) rfl rfl (Nat.le_of_ble_eq_true rfl) (.cons (.plain rfl) rfl rfl (Nat.le_of_ble_eq_true rfl) (.cons (.plain rfl) rfl rfl (Nat.le_of_ble_eq_true rfl) (.cons (.plain rfl) rfl rfl (Nat.le_of_ble_eq_true rfl) (.cons (.plain rfl) rfl rfl (Nat.le_of_ble_eq_true rfl) (.cons (.plain rfl) rfl rfl (Nat.le_of_ble_eq_true rfl) (.cons (.plain rfl) rfl rfl (Nat.le_of_ble_eq_true rfl) (.cons (.plain rfl) rfl rfl (Nat.le_of_ble_eq_true rfl) (.cons (.plain rfl) rfl rfl (Nat.le_of_ble_eq_true rfl) (.cons (.plain rfl) rfl rfl (Nat.le_of_ble_eq_true rfl) (.cons (.plain rfl) rfl rfl (Nat.le_of_ble_eq_true rfl) (.cons (.plain rfl) rfl rfl (Nat.le_of_ble_eq_true rfl) (.cons (.plain rfl) rfl rfl (Nat.le_of_ble_eq_true rfl) (.cons (.plain rfl) rfl rfl (Nat.le_of_ble_eq_true rfl) (.cons (.plain rfl) rfl rfl (Nat.le_of_ble_eq_true rfl) (.cons (.plain rfl) rfl rfl (Nat.le_of_ble_eq_true rfl) (.cons (.plain rfl) rfl rfl (Nat.le_of_ble_eq_true rfl) (.cons (.plain rfl) rfl rfl (Nat.le_of_ble_eq_true rfl) (.cons (.plain rfl) rfl rfl (Nat.le_of_ble_eq_true rfl) (.cons (.plain rfl) rfl rfl (Nat.le_of_ble_eq_true rfl) (.cons (.plain rfl) rfl rfl (Nat.le_of_ble_eq_true rfl) (.cons (.plain rfl) rfl rfl (Nat.le_of_ble_eq_true rfl) (.cons (.plain rfl) rfl rfl (Nat.le_of_ble_eq_true rfl) (.cons (.plain rfl) rfl rfl (Nat.le_of_ble_eq_true rfl) (.cons (.plain rfl) rfl rfl (Nat.le_of_ble_eq_true rfl) (.cons (.plain rfl) rfl rfl (Nat.le_of_ble_eq_true rfl) (.cons (.plain rfl) rfl rfl (Nat.le_of_ble_eq_true rfl) (.cons (.plain rfl) rfl rfl (Nat.le_of_ble_eq_true rfl) (.cons (.plain rfl) rfl rfl (Nat.le_of_ble_eq_true rfl) (.cons (.plain rfl) rfl rfl (Nat.le_of_ble_eq_true rfl) (.cons (.plain rfl) rfl rfl (Nat.le_of_ble_eq_true rfl) (.nil _ _))))))))))))))))))))))))))))))))))))))))))))))))))))))))))))))))) rfl).to (y := .d (.agg (kk.map fun x => D.v (.int .u32 (wi x))))) (by kernel_rfl))
    apply Trace.storeD (cs' := (kk.map fun x => D.v (.int .u32 (wi x)))) ty106 (.plain rfl) (.plain rfl) rfl rfl rfl (by simp [AV.oneB, single]) (by decide) (spliceL_all (by rfl))
    exact .nil _
  · exact keepOK_of hk hn rfl
  apply WPA.ret
  refine ⟨.inr rfl, ⟨_, (.cons (.cellD rfl rfl ty106 rfl) .nil), ?_⟩, by simp [St.get]⟩
  rfl
/-- soundpost/soundpostref02.block -/
theorem spec72 (s : V8) (b : List Int) (g : Nat → List D) (hg : ∀ i, i < 64 → g i = [.v (.int .u8 (b.getD i 0))]) : FnSpec Tryd.prog 72 [.d (.agg (s.ws.map fun n => D.v (.int .u32 n))), .d (.rows 1 64 g)] [] (.d (.agg ((s.blk b).ws.map fun n => D.v (.int .u32 n)))) [] [] := by
  refine fnSpec_of (rs := [.cell 4 94]) Tryd.func72 rfl rfl (Nat.le_of_ble_eq_true rfl) (by simp [St.get]) fun E hk hn => ?_
  apply WPA.seq
  apply WPA.region
  · apply Trace.boxD 2 [] (.plain rfl) rfl rfl
    apply Trace.alloc 4 [] (.data (List.replicate 8 (D.v (.int .u32 0)))) zo94 (cellsAs_data _) rfl
    exact .nil _
  · exact keepOK_of hk hn rfl
  apply WPA.seq
  apply WPA.region
  · apply Trace.pu [] (.build zo106 pl106 (.nil _ _) rfl)
    apply Trace.alloc 5 [] (.data (List.replicate 64 (.v (.int .u32 0)))) zo106 (cellsAs_data _) rfl
    apply Trace.storeD (cs' := List.replicate 64 (.v (.int .u32 0))) ty106 (.plain rfl) (.plain rfl) rfl rfl rfl (by simp [AV.oneB, single]) (by decide) (spliceL_all (by rfl))
    exact .nil _
  · exact keepOK_of hk hn rfl
  apply WPA.seq
  apply WPA.seq
  refine WPA.ghost (Ghost.dataCols (l := 5) (n := 64) (col := .ints .u32 (List.replicate 64 0)) rfl rfl rfl) ?_
  apply WPA.region
  · apply Trace.pu [] (.assign (.plain rfl))
    exact .nil _
  · exact keepOK_of hk hn rfl
  apply WPA.block
  refine WPA.loop (σ := Nat) (fun i => [(sl 1, .av (.d (.rows 1 64 g))), (sl 2, .av (.loc 2 0)), (sl 4, .av (.loc 4 0)), (sl 5, .av (.loc 5 0)), (sl 6, .av (iv .i64 (i))), (bk 2, .blk (.data (s.ws.map fun n => D.v (.int .u32 n)))), (bk 4, .blk (.data (List.replicate 8 (D.v (.int .u32 0))))), (bk 5, .blk (.cols 1 64 [.ints .u32 (padW ((word16 b).take i))]))]) (fun i => i ≤ 16) (fun i => 16 - i) 0
    (St.le_cons rfl (St.le_cons rfl (St.le_cons rfl (St.le_cons rfl (St.le_cons rfl (St.le_cons rfl (St.le_cons rfl (St.le_cons rfl (St.le_nil _))))))))) (Nat.zero_le _) fun i hi => ?_
  apply WPA.seq
  apply WPA.seq
  apply WPA.region
  · apply Trace.pu [] (.move (.plain rfl))
    apply Trace.pu [] (.cmp (.plain rfl) (.plain rfl) rfl)
    exact .nil _
  · exact keepOK_of hk hn rfl
  refine WPA.cond rfl (fun hc1 => ?_) (fun hc1 => ?_)
  · have hlt : i < 16 := by simp at hc1; omega
    have htl : ((word16 b).take i).length = i := by rw [List.length_take, word16_length]; omega
    apply WPA.skip
    apply WPA.seq
    apply WPA.block
    apply WPA.region
    · apply Trace.pu [] (.move (.plain rfl))
      apply Trace.pu [] (.move (.plain rfl))
      apply Trace.pu [] (.move (.plain rfl))
      apply Trace.pu [] (.arith (.plain rfl) (.plain rfl) rfl (fun _ => bd64 (by omega)))
      apply Trace.pu [] (.move (.plain rfl))
      apply Trace.pu [] (.arith (.plain rfl) (.plain rfl) rfl (fun _ => bd64 (by omega)))
      apply Trace.pu [] (.arith (.plain rfl) (.plain rfl) rfl (fun _ => bd64 (by omega)))
      apply Trace.pu [] (.cutRows so54 (.plain rfl) (.to _ (.plain rfl) (fun _ => by omega)) (.to _ (.plain rfl) (fun _ => by omega)) (fun _ => ⟨by omega, by omega⟩))
      apply Trace.cu (callArgs0 (.cons (.plain rfl) .nil)) (spec73 (b.drop (4 * i)) _ _ (by omega) (fun j hj => by show g ((4 * (i : Int)).toNat + j) = _; rw [hg _ (by omega), show (4 * (i : Int)).toNat = 4 * i by omega]; simp [List.getD_eq_getElem?_getD])) en73
      apply Trace.pu [] (.indexArr ar106 (.plain rfl) (.plain rfl) (fun _ => ⟨by omega, by omega⟩))
      apply Trace.storeRow ty93 (.plain rfl) (.plain rfl) rfl rfl rfl rfl (by decide) (by simp [AV.oneB, single]) rfl (by omega)
      exact .nil _
    · exact keepOK_of hk hn rfl
    apply WPA.region
    · apply Trace.pu [] (.move (.plain rfl))
      apply Trace.pu [] (.arith (.plain rfl) (.plain rfl) rfl (fun _ => bd64 (by omega)))
      apply Trace.pu [] (.assign (.plain rfl))
      exact .nil _
    · exact keepOK_of hk hn rfl
    exact ⟨i + 1, by omega, by omega, St.le_cons rfl (St.le_cons rfl (St.le_cons rfl (St.le_cons rfl (St.le_cons (iv_eq (by omega)) (St.le_cons rfl (St.le_cons rfl (St.le_cons (blk_eq (by show Blk.cols 1 64 [.ints .u32 ((padW ((word16 b).take i)).set (i : Int).toNat (wi _))] = _; rw [take_succ16 hlt, ← padW_set (by omega), htl, Int.toNat_natCast]; simp [List.getD_eq_getElem?_getD])) (St.le_nil _))))))))⟩
  · have h16 : i = 16 := by simp at hc1; omega
    subst h16
    have ht16 : (word16 b).take 16 = word16 b := List.take_of_length_le (by rw [word16_length]; omega)
    rw [ht16]
    apply WPA.exit
    apply WPA.seq
    apply WPA.seq
    apply WPA.region
    · apply Trace.pu [] (.assign (.plain rfl))
      exact .nil _
    · exact keepOK_of hk hn rfl
    apply WPA.block
    refine WPA.loop (σ := Nat) (fun n => [(sl 2, .av (.loc 2 0)), (sl 4, .av (.loc 4 0)), (sl 5, .av (.loc 5 0)), (sl 7, .av (iv .i64 (16 + n))), (bk 2, .blk (.data (s.ws.map fun n => D.v (.int .u32 n)))), (bk 4, .blk (.data (List.replicate 8 (D.v (.int .u32 0))))), (bk 5, .blk (.cols 1 64 [.ints .u32 (padW (sch (word16 b) n))]))]) (fun n => n ≤ 48) (fun n => 48 - n) 0
      (St.le_cons rfl (St.le_cons rfl (St.le_cons rfl (St.le_cons rfl (St.le_cons rfl (St.le_cons rfl (St.le_cons rfl (St.le_nil _)))))))) (Nat.zero_le _) fun n hn2 => ?_
    apply WPA.seq
    apply WPA.seq
    apply WPA.region
    · apply Trace.pu [] (.move (.plain rfl))
      apply Trace.pu [] (.cmp (.plain rfl) (.plain rfl) rfl)
      exact .nil _
    · exact keepOK_of hk hn rfl
    refine WPA.cond rfl (fun hc2 => ?_) (fun hc2 => ?_)
    · have hlt : n < 48 := by simp at hc2; omega
      have hsl := sch_length (word16 b) n
      rw [word16_length] at hsl
      have h64 := padW_length (l := sch (word16 b) n) (by omega)
      apply WPA.skip
      apply WPA.seq
      apply WPA.block
      apply WPA.seq
      apply WPA.region
      · apply Trace.pu [] (.move (.plain rfl))
        apply Trace.pu [] (.arith (.plain rfl) (.plain rfl) rfl (fun _ => bd64 (by omega)))
        apply Trace.pu [] (.indexArr ar106 (.plain rfl) (.plain rfl) (fun _ => ⟨by omega, by omega⟩))
        apply Trace.pu [_] ((Pure.loadCol1 ty93 (.plain rfl) rfl rfl rfl (fun _ => by omega)).to (y := wv ((sch (word16 b) n).getD (n + 1) 0)) (by exact pad_at (by omega) (by omega)))
        apply Trace.pu [] (.assign (.plain rfl))
        exact .nil _
      · exact keepOK_of hk hn rfl
      apply WPA.seq
      apply WPA.region
      · apply Trace.pu [] (.move (.plain rfl))
        apply Trace.pu [] (.arith (.plain rfl) (.plain rfl) rfl (fun _ => bd64 (by omega)))
        apply Trace.pu [] (.indexArr ar106 (.plain rfl) (.plain rfl) (fun _ => ⟨by omega, by omega⟩))
        apply Trace.pu [_] ((Pure.loadCol1 ty93 (.plain rfl) rfl rfl rfl (fun _ => by omega)).to (y := wv ((sch (word16 b) n).getD (n + 14) 0)) (by exact pad_at (by omega) (by omega)))
        apply Trace.pu [] (.assign (.plain rfl))
        exact .nil _
      · exact keepOK_of hk hn rfl
      apply WPA.draw mixed
      · apply Trace.pu [] (.move (.plain rfl))
        apply Trace.pu [] (.move (.plain rfl))
        apply Trace.pu [] (.arith (.plain rfl) (.plain rfl) rfl (fun _ => bd64 (by omega)))
        apply Trace.pu [] (.indexArr ar106 (.plain rfl) (.plain rfl) (fun _ => ⟨by omega, by omega⟩))
        apply Trace.pu [_] ((Pure.loadCol1 ty93 (.plain rfl) rfl rfl rfl (fun _ => by omega)).to (y := wv ((sch (word16 b) n).getD n 0)) (by exact pad_at (by omega) (by omega)))
        apply Trace.pu [] (.move (.plain rfl))
        apply Trace.cu (callArgs0 (.cons (.plain rfl) (.cons (.plain rfl) .nil))) (spec74 _ 7 (by decide)) en74
        apply Trace.pu [] (.move (.plain rfl))
        apply Trace.cu (callArgs0 (.cons (.plain rfl) (.cons (.plain rfl) .nil))) (spec74 _ 18 (by decide)) en74
        apply Trace.pu [] (.wxor (.plain rfl) (.plain rfl))
        apply Trace.pu [] (.move (.plain rfl))
        apply Trace.pu [] (.wshr (.plain rfl) (.plain rfl) (fun _ => by decide) (fun _ => by decide))
        apply Trace.pu [] (.wxor (.plain rfl) (.plain rfl))
        apply Trace.pu [] (.wadd (.plain rfl) (.plain rfl))
        apply Trace.pu [] (.move (.plain rfl))
        apply Trace.pu [] (.arith (.plain rfl) (.plain rfl) rfl (fun _ => bd64 (by omega)))
        apply Trace.pu [] (.indexArr ar106 (.plain rfl) (.plain rfl) (fun _ => ⟨by omega, by omega⟩))
        apply Trace.pu [_] ((Pure.loadCol1 ty93 (.plain rfl) rfl rfl rfl (fun _ => by omega)).to (y := wv ((sch (word16 b) n).getD (n + 9) 0)) (by exact pad_at (by omega) (by omega)))
        apply Trace.pu [] (.wadd (.plain rfl) (.plain rfl))
        apply Trace.pu [] (.move (.plain rfl))
        apply Trace.cu (callArgs0 (.cons (.plain rfl) (.cons (.plain rfl) .nil))) (spec74 _ 17 (by decide)) en74
        apply Trace.pu [] (.move (.plain rfl))
        apply Trace.cu (callArgs0 (.cons (.plain rfl) (.cons (.plain rfl) .nil))) (spec74 _ 19 (by decide)) en74
        apply Trace.pu [] (.wxor (.plain rfl) (.plain rfl))
        apply Trace.pu [] (.move (.plain rfl))
        apply Trace.pu [] (.wshr (.plain rfl) (.plain rfl) (fun _ => by decide) (fun _ => by decide))
        apply Trace.pu [] (.wxor (.plain rfl) (.plain rfl))
        apply Trace.pu [] (.wadd (.plain rfl) (.plain rfl))
        apply Trace.pu [] (.indexArr ar106 (.plain rfl) (.plain rfl) (fun _ => ⟨by omega, by omega⟩))
        apply Trace.storeRow ty93 (.plain rfl) (.plain rfl) rfl rfl rfl rfl (by decide) (by simp [AV.oneB, single]) rfl (by omega)
        exact .nil _
      · rfl
      · exact keepOK_of hk hn rfl
      apply WPA.region
      · apply Trace.pu [] (.move (.plain rfl))
        apply Trace.pu [] (.arith (.plain rfl) (.plain rfl) rfl (fun _ => bd64 (by omega)))
        apply Trace.pu [] (.assign (.plain rfl))
        exact .nil _
      · exact keepOK_of hk hn rfl
      exact ⟨n + 1, by omega, by omega, St.le_cons rfl (St.le_cons rfl (St.le_cons rfl (St.le_cons (iv_eq (by omega)) (St.le_cons rfl (St.le_cons rfl (St.le_cons (blk_eq (by show Blk.cols 1 64 [.ints .u32 ((padW (sch (word16 b) n)).set (16 + (n : Int)).toNat (wi _))] = _; rw [show (16 + (n : Int)).toNat = (sch (word16 b) n).length by omega, padW_set (by omega)]; rfl)) (St.le_nil _)))))))⟩
    · have h48 : n = 48 := by simp at hc2; omega
      subst h48
      have hsl := sch_length (word16 b) 48
      rw [word16_length] at hsl
      apply WPA.exit
      apply WPA.seq
      apply WPA.region
      · apply Trace.cu (callArgs0 .nil) spec75 en75
        apply Trace.alloc 10 [] (.data (List.replicate 64 (.v (.int .u32 0)))) zo106 (cellsAs_data _) rfl
        apply Trace.storeD (cs' := (kk.map fun x => D.v (.int .u32 (wi x)))) ty106 (.plain rfl) (.plain rfl) rfl rfl rfl (by simp [AV.oneB, single]) (by decide) (spliceL_all (by rfl))
        exact .nil _
      · exact keepOK_of hk hn rfl
      apply WPA.seq
      refine WPA.ghost (Ghost.dataCols (l := 10) (n := 64) (col := .ints .u32 (kk.map wi)) rfl rfl (by kernel_rfl)) ?_
      apply WPA.draw mixed
      · apply Trace.pu [] (.indexLoc ar94 (.plain rfl) (.plain rfl) (fun _ => by decide) rfl)
        apply Trace.pu [_] (.loadLoc1D ty93 (.plain rfl) rfl rfl)
        apply Trace.pu [] (.indexLoc ar94 (.plain rfl) (.plain rfl) (fun _ => by decide) rfl)
        apply Trace.pu [_] (.loadLoc1D ty93 (.plain rfl) rfl rfl)
        apply Trace.pu [] (.indexLoc ar94 (.plain rfl) (.plain rfl) (fun _ => by decide) rfl)
        apply Trace.pu [_] (.loadLoc1D ty93 (.plain rfl) rfl rfl)
        apply Trace.pu [] (.indexLoc ar94 (.plain rfl) (.plain rfl) (fun _ => by decide) rfl)
        apply Trace.pu [_] (.loadLoc1D ty93 (.plain rfl) rfl rfl)
        apply Trace.pu [] (.indexLoc ar94 (.plain rfl) (.plain rfl) (fun _ => by decide) rfl)
        apply Trace.pu [_] (.loadLoc1D ty93 (.plain rfl) rfl rfl)
        apply Trace.pu [] (.indexLoc ar94 (.plain rfl) (.plain rfl) (fun _ => by decide) rfl)
        apply Trace.pu [_] (.loadLoc1D ty93 (.plain rfl) rfl rfl)
        apply Trace.pu [] (.indexLoc ar94 (.plain rfl) (.plain rfl) (fun _ => by decide) rfl)
        apply Trace.pu [_] (.loadLoc1D ty93 (.plain rfl) rfl rfl)
        apply Trace.pu [] (.indexLoc ar94 (.plain rfl) (.plain rfl) (fun _ => by decide) rfl)
        apply Trace.pu [_] (.loadLoc1D ty93 (.plain rfl) rfl rfl)
        apply Trace.pu [] (.assign (.plain rfl))
        apply Trace.pu [] (.assign (.plain rfl))
        apply Trace.pu [] (.assign (.plain rfl))
        apply Trace.pu [] (.assign (.plain rfl))
        apply Trace.pu [] (.assign (.plain rfl))
        apply Trace.pu [] (.assign (.plain rfl))
        apply Trace.pu [] (.assign (.plain rfl))
        apply Trace.pu [] (.assign (.plain rfl))
        exact .nil _
      · rfl
      · exact keepOK_of hk hn rfl
      apply WPA.seq
      apply WPA.seq
      apply WPA.region
      · apply Trace.pu [] (.assign (.plain rfl))
        exact .nil _
      · exact keepOK_of hk hn rfl
      apply WPA.block
      refine WPA.loop (σ := Nat) (fun i => [(sl 2, .av (.loc 2 0)), (sl 4, .av (.loc 4 0)), (sl 5, .av (.loc 5 0)), (sl 10, .av (.loc 10 0)), (sl 11, .av (wv (V8.rnds (sch (word16 b) 48) s i).a)), (sl 12, .av (wv (V8.rnds (sch (word16 b) 48) s i).b)), (sl 13, .av (wv (V8.rnds (sch (word16 b) 48) s i).c)), (sl 14, .av (wv (V8.rnds (sch (word16 b) 48) s i).d)), (sl 15, .av (wv (V8.rnds (sch (word16 b) 48) s i).e)), (sl 16, .av (wv (V8.rnds (sch (word16 b) 48) s i).f)), (sl 17, .av (wv (V8.rnds (sch (word16 b) 48) s i).g)), (sl 18, .av (wv (V8.rnds (sch (word16 b) 48) s i).h)), (sl 19, .av (iv .i64 (i))), (bk 2, .blk (.data (s.ws.map fun n => D.v (.int .u32 n)))), (bk 4, .blk (.data (List.replicate 8 (D.v (.int .u32 0))))), (bk 5, .blk (.cols 1 64 [.ints .u32 (padW (sch (word16 b) 48))])), (bk 10, .blk (.cols 1 64 [.ints .u32 (kk.map wi)]))]) (fun i => i ≤ 64) (fun i => 64 - i) 0
        (St.le_cons rfl (St.le_cons rfl (St.le_cons rfl (St.le_cons rfl (St.le_cons rfl (St.le_cons rfl (St.le_cons rfl (St.le_cons rfl (St.le_cons rfl (St.le_cons rfl (St.le_cons rfl (St.le_cons rfl (St.le_cons rfl (St.le_cons rfl (St.le_cons rfl (St.le_cons rfl (St.le_cons rfl (St.le_nil _)))))))))))))))))) (Nat.zero_le _) fun i hi => ?_
      apply WPA.seq
      apply WPA.seq
      apply WPA.region
      · apply Trace.pu [] (.move (.plain rfl))
        apply Trace.pu [] (.cmp (.plain rfl) (.plain rfl) rfl)
        exact .nil _
      · exact keepOK_of hk hn rfl
      refine WPA.cond rfl (fun hc3 => ?_) (fun hc3 => ?_)
      · have hlt : i < 64 := by simp at hc3; omega
        obtain ⟨v, hv⟩ : ∃ v, V8.rnds (sch (word16 b) 48) s i = v := ⟨_, rfl⟩
        have hv1 : V8.rnds (sch (word16 b) 48) s (i + 1) = v.rnd (kk.getD i 0) ((sch (word16 b) 48).getD i 0) := by rw [← hv]; rfl
        have h64 := padW_length (l := sch (word16 b) 48) (by omega)
        rw [hv]
        apply WPA.skip
        apply WPA.seq
        apply WPA.block
        apply WPA.seq
        apply WPA.draw mixed
        · apply Trace.pu [] (.move (.plain rfl))
          apply Trace.pu [] (.move (.plain rfl))
          apply Trace.cu (callArgs0 (.cons (.plain rfl) (.cons (.plain rfl) .nil))) (spec74 _ 6 (by decide)) en74
          apply Trace.pu [] (.move (.plain rfl))
          apply Trace.cu (callArgs0 (.cons (.plain rfl) (.cons (.plain rfl) .nil))) (spec74 _ 11 (by decide)) en74
          apply Trace.pu [] (.wxor (.plain rfl) (.plain rfl))
          apply Trace.pu [] (.move (.plain rfl))
          apply Trace.cu (callArgs0 (.cons (.plain rfl) (.cons (.plain rfl) .nil))) (spec74 _ 25 (by decide)) en74
          apply Trace.pu [] (.wxor (.plain rfl) (.plain rfl))
          apply Trace.pu [] (.wadd (.plain rfl) (.plain rfl))
          apply Trace.pu [] (.move (.plain rfl))
          apply Trace.pu [] (.move (.plain rfl))
          apply Trace.pu [] (.wand (.plain rfl) (.plain rfl))
          apply Trace.pu [] (.move (.plain rfl))
          apply Trace.pu [] (.winv (.plain rfl))
          apply Trace.pu [] (.move (.plain rfl))
          apply Trace.pu [] (.wand (.plain rfl) (.plain rfl))
          apply Trace.pu [] (.wxor (.plain rfl) (.plain rfl))
          apply Trace.pu [] (.wadd (.plain rfl) (.plain rfl))
          apply Trace.pu [] (.move (.plain rfl))
          apply Trace.pu [] (.indexArr ar106 (.plain rfl) (.plain rfl) (fun _ => ⟨by omega, by omega⟩))
          apply Trace.pu [_] ((Pure.loadCol1 ty93 (.plain rfl) rfl rfl rfl (fun _ => by omega)).to (y := wv (kk.getD i 0)) (by exact kk_at (by omega) hlt))
          apply Trace.pu [] (.wadd (.plain rfl) (.plain rfl))
          apply Trace.pu [] (.move (.plain rfl))
          apply Trace.pu [] (.indexArr ar106 (.plain rfl) (.plain rfl) (fun _ => ⟨by omega, by omega⟩))
          apply Trace.pu [_] ((Pure.loadCol1 ty93 (.plain rfl) rfl rfl rfl (fun _ => by omega)).to (y := wv ((sch (word16 b) 48).getD i 0)) (by exact pad_at (by omega) (by omega)))
          apply Trace.pu [] (.wadd (.plain rfl) (.plain rfl))
          apply Trace.pu [] (.assign (.plain rfl))
          exact .nil _
        · rfl
        · exact keepOK_of hk hn rfl
        apply WPA.seq
        apply WPA.region
        · apply Trace.pu [] (.move (.plain rfl))
          apply Trace.cu (callArgs0 (.cons (.plain rfl) (.cons (.plain rfl) .nil))) (spec74 _ 2 (by decide)) en74
          apply Trace.pu [] (.move (.plain rfl))
          apply Trace.cu (callArgs0 (.cons (.plain rfl) (.cons (.plain rfl) .nil))) (spec74 _ 13 (by decide)) en74
          apply Trace.pu [] (.wxor (.plain rfl) (.plain rfl))
          apply Trace.pu [] (.move (.plain rfl))
          apply Trace.cu (callArgs0 (.cons (.plain rfl) (.cons (.plain rfl) .nil))) (spec74 _ 22 (by decide)) en74
          apply Trace.pu [] (.wxor (.plain rfl) (.plain rfl))
          apply Trace.pu [] (.move (.plain rfl))
          apply Trace.pu [] (.move (.plain rfl))
          apply Trace.pu [] (.wand (.plain rfl) (.plain rfl))
          apply Trace.pu [] (.move (.plain rfl))
          apply Trace.pu [] (.move (.plain rfl))
          apply Trace.pu [] (.wand (.plain rfl) (.plain rfl))
          apply Trace.pu [] (.wxor (.plain rfl) (.plain rfl))
          apply Trace.pu [] (.move (.plain rfl))
          apply Trace.pu [] (.move (.plain rfl))
          apply Trace.pu [] (.wand (.plain rfl) (.plain rfl))
          apply Trace.pu [] (.wxor (.plain rfl) (.plain rfl))
          apply Trace.pu [] (.wadd (.plain rfl) (.plain rfl))
          apply Trace.pu [] (.assign (.plain rfl))
          exact .nil _
        · exact keepOK_of hk hn rfl
        apply WPA.region
        · apply Trace.pu [] (.move (.plain rfl))
          apply Trace.pu [] (.move (.plain rfl))
          apply Trace.pu [] (.move (.plain rfl))
          apply Trace.pu [] (.move (.plain rfl))
          apply Trace.pu [] (.move (.plain rfl))
          apply Trace.pu [] (.wadd (.plain rfl) (.plain rfl))
          apply Trace.pu [] (.move (.plain rfl))
          apply Trace.pu [] (.move (.plain rfl))
          apply Trace.pu [] (.move (.plain rfl))
          apply Trace.pu [] (.move (.plain rfl))
          apply Trace.pu [] (.move (.plain rfl))
          apply Trace.pu [] (.wadd (.plain rfl) (.plain rfl))
          apply Trace.pu [] (.assign (.plain rfl))
          apply Trace.pu [] (.assign (.plain rfl))
          apply Trace.pu [] (.assign (.plain rfl))
          apply Trace.pu [] (.assign (.plain rfl))
          apply Trace.pu [] (.assign (.plain rfl))
          apply Trace.pu [] (.assign (.plain rfl))
          apply Trace.pu [] (.assign (.plain rfl))
          apply Trace.pu [] (.assign (.plain rfl))
          exact .nil _
        · exact keepOK_of hk hn rfl
        apply WPA.region
        · apply Trace.pu [] (.move (.plain rfl))
          apply Trace.pu [] (.arith (.plain rfl) (.plain rfl) rfl (fun _ => bd64 (by omega)))
          apply Trace.pu [] (.assign (.plain rfl))
          exact .nil _
        · exact keepOK_of hk hn rfl
        exact ⟨i + 1, by omega, by omega, St.le_cons rfl (St.le_cons rfl (St.le_cons rfl (St.le_cons rfl (St.le_cons (wst (by rw [hv1]; rfl)) (St.le_cons (wst (by rw [hv1]; rfl)) (St.le_cons (wst (by rw [hv1]; rfl)) (St.le_cons (wst (by rw [hv1]; rfl)) (St.le_cons (wst (by rw [hv1]; rfl)) (St.le_cons (wst (by rw [hv1]; rfl)) (St.le_cons (wst (by rw [hv1]; rfl)) (St.le_cons (wst (by rw [hv1]; rfl)) (St.le_cons (iv_eq (by omega)) (St.le_cons rfl (St.le_cons rfl (St.le_cons rfl (St.le_cons rfl (St.le_nil _)))))))))))))))))⟩
      · have h64 : i = 64 := by simp at hc3; omega
        subst h64
        obtain ⟨v, hv⟩ : ∃ v, V8.rnds (sch (word16 b) 48) s 64 = v := ⟨_, rfl⟩
        rw [hv]
        apply WPA.exit
        apply WPA.seq
        apply WPA.region
        · apply Trace.pu [] (.indexLoc ar94 (.plain rfl) (.plain rfl) (fun _ => by decide) rfl)
          apply Trace.pu [_] (.loadLoc1D ty93 (.plain rfl) rfl rfl)
          apply Trace.pu [] (.move (.plain rfl))
          apply Trace.pu [] (.wadd (.plain rfl) (.plain rfl))
          apply Trace.pu [] (.indexLoc ar94 (.plain rfl) (.plain rfl) (fun _ => by decide) rfl)
          apply Trace.pu [_] (.loadLoc1D ty93 (.plain rfl) rfl rfl)
          apply Trace.pu [] (.move (.plain rfl))
          apply Trace.pu [] (.wadd (.plain rfl) (.plain rfl))
          apply Trace.pu [] (.indexLoc ar94 (.plain rfl) (.plain rfl) (fun _ => by decide) rfl)
          apply Trace.pu [_] (.loadLoc1D ty93 (.plain rfl) rfl rfl)
          apply Trace.pu [] (.move (.plain rfl))
          apply Trace.pu [] (.wadd (.plain rfl) (.plain rfl))
          apply Trace.pu [] (.indexLoc ar94 (.plain rfl) (.plain rfl) (fun _ => by decide) rfl)
          apply Trace.pu [_] (.loadLoc1D ty93 (.plain rfl) rfl rfl)
          apply Trace.pu [] (.move (.plain rfl))
          apply Trace.pu [] (.wadd (.plain rfl) (.plain rfl))
          apply Trace.pu [] (.indexLoc ar94 (.plain rfl) (.plain rfl) (fun _ => by decide) rfl)
          apply Trace.pu [_] (.loadLoc1D ty93 (.plain rfl) rfl rfl)
          apply Trace.pu [] (.move (.plain rfl))
          apply Trace.pu [] (.wadd (.plain rfl) (.plain rfl))
          apply Trace.pu [] (.indexLoc ar94 (.plain rfl) (.plain rfl) (fun _ => by decide) rfl)
          apply Trace.pu [_] (.loadLoc1D ty93 (.plain rfl) rfl rfl)
          apply Trace.pu [] (.move (.plain rfl))
          apply Trace.pu [] (.wadd (.plain rfl) (.plain rfl))
          apply Trace.pu [] (.indexLoc ar94 (.plain rfl) (.plain rfl) (fun _ => by decide) rfl)
          apply Trace.pu [_] (.loadLoc1D ty93 (.plain rfl) rfl rfl)
          apply Trace.pu [] (.move (.plain rfl))
          apply Trace.pu [] (.wadd (.plain rfl) (.plain rfl))
          apply Trace.pu [] (.indexLoc ar94 (.plain rfl) (.plain rfl) (fun _ => by decide) rfl)
          apply Trace.pu [_] (.loadLoc1D ty93 (.plain rfl) rfl rfl)
          apply Trace.pu [] (.move (.plain rfl))
          apply Trace.pu [] (.wadd (.plain rfl) (.plain rfl))
          apply Trace.pu [] (.build zo94 pl94 (.cons (.plain rfl) rfl rfl (Nat.le_of_ble_eq_true rfl) (.cons (.plain rfl) rfl rfl (Nat.le_of_ble_eq_true rfl) (.cons (.plain rfl) rfl rfl (Nat.le_of_ble_eq_true rfl) (.cons (.plain rfl) rfl rfl (Nat.le_of_ble_eq_true rfl) (.cons (.plain rfl) rfl rfl (Nat.le_of_ble_eq_true rfl) (.cons (.plain rfl) rfl rfl (Nat.le_of_ble_eq_true rfl) (.cons (.plain rfl) rfl rfl (Nat.le_of_ble_eq_true rfl) (.cons (.plain rfl) rfl rfl (Nat.le_of_ble_eq_true rfl) (.nil _ _))))))))) rfl)
          apply Trace.storeD (cs' := (s.plus v).ws.map fun n => D.v (.int .u32 n)) ty94 (.plain rfl) (.plain rfl) rfl rfl rfl (by simp [AV.oneB, single]) (by decide) (spliceL_all (by rfl))
          exact .nil _
        · exact keepOK_of hk hn rfl
        apply WPA.ret
        refine ⟨.inr rfl, ⟨_, (.cons (.cellD rfl rfl ty94 rfl) .nil), ?_⟩, by simp [St.get]⟩
        rw [V8.blk, hv]
        rfl

end Go.Proofs.YtmdfamnnnoieaaaDoor


/- soundpostref02: padding, Sum, Tagged: the same model. -/
namespace Go.Proofs.YtmdfamnnnoieaaaDoor
open Go
set_option linter.unusedVariables false
set_option linter.unusedSimpArgs false
set_option maxRecDepth 10000
set_option maxHeartbeats 2000000

/-- A column of integers, known as data. -/
theorem ds_ints {k : IntKind} {xs : List Int} {n : Nat} (hn : xs.length = n) : ∀ (i j : Nat) (c' : Col), i < n → [Col.ints k xs][j]? = some c' → ∃ c : Col, [Col.ds (xs.map fun x => .v (.int k x))][j]? = some c ∧ ∀ M v, DenD M (c.at i) v → DenD M (c'.at i) v := by
  intro i j c' hi hc
  cases j with
  | succ j => simp at hc
  | zero =>
    simp at hc
    subst hc
    refine ⟨_, rfl, fun M v h => ?_⟩
    have hx : i < xs.length := by omega
    simpa [Col.at, List.getD_eq_getElem?_getD, hx] using h
theorem ds_ints1 {b : List Int} : joined (joined (colsFrom 1 0 []) [.ints .u8 b]) (colsFrom 1 1 [D.v (.int .u8 128)]) = [Col.ds ((b ++ [128]).map fun x => .v (.int .u8 x))] := by
  show joined (joined [.ds []] [.ints .u8 b]) [.ints .u8 [128]] = _
  simp [joined, catCols, Col.cat]
def padZ (b : List Int) : Nat := (119 - b.length % 64) % 64
def padTo (b : List Int) (j : Nat) : List Int := b ++ 128 :: List.replicate j 0
theorem padTo_succ (b : List Int) (j : Nat) : padTo b (j + 1) = padTo b j ++ [0] := by
  unfold padTo
  rw [List.append_assoc, List.cons_append]
  congr 2
  rw [List.replicate_succ']
theorem padTo_length (b : List Int) (j : Nat) : (padTo b j).length = b.length + 1 + j := by simp [padTo]; omega
def padEnd (b : List Int) (m : Nat) : List Int := padTo b (padZ b) ++ (putB 8 (8 * b.length)).take m
theorem padEnd_zero (b : List Int) : padEnd b 0 = padTo b (padZ b) := by simp [padEnd]
theorem padEnd_succ {b : List Int} {m : Nat} (h : m < 8) : padEnd b (m + 1) = padEnd b m ++ [((8 * b.length / 2 ^ (8 * (7 - m)) % 256 : Nat) : Int)] := by
  unfold padEnd
  rw [List.take_add_one, putB_get h, List.append_assoc]
  rfl
theorem padEnd_all (b : List Int) : padEnd b 8 = padM b := by
  unfold padEnd padTo padM padZ
  rw [List.take_of_length_le (by simp [putB_length]), List.append_assoc]
  rfl
theorem padEnd_length {b : List Int} {m : Nat} (h : m ≤ 8) : (padEnd b m).length = b.length + 1 + padZ b + m := by
  unfold padEnd
  rw [List.length_append, padTo_length, List.length_take, putB_length]
  omega
theorem pad_mod (b : List Int) : (padM b).length = 64 * ((padM b).length / 64) := by rw [padM_length]; omega
theorem own_st2 {l m n : Nat} (h : m = n) : some (Cont.av (AV.own l m)) = some (Cont.av (.own l n)) := by rw [h]
/-- soundpost/soundpostref02.padded -/
theorem spec71 (b : List Int) (g : Nat → List D) (hb : b.length ≤ 1000000) (hg : ∀ i, i < b.length → g i = [.v (.int .u8 (b.getD i 0))]) : FnSpec Tryd.prog 71 [.d (.rows 1 b.length g)] [] (.own 0 (padM b).length) [(bk 0, .blk (.app 1 (padM b).length [.ints .u8 (padM b)]))] [] := by
  refine fnSpec_of (rs := [.tmp 2]) Tryd.func71 rfl rfl (Nat.le_of_ble_eq_true rfl) (by simp [St.get]) fun E hk hn => ?_
  apply WPA.seq
  apply WPA.region
  · apply Trace.pu [] (.assign (.plain rfl))
    exact .nil _
  · exact keepOK_of hk hn rfl
  apply WPA.seq
  apply WPA.region
  · apply Trace.buildSlice 6 [] so54 zo5 rfl (by decide) (by decide) (.nil _ _) rfl rfl rfl
    apply Trace.pu [] (.move (.plain rfl))
    apply Trace.append 8 [bk 6, sl 6] ap54 kd54 (by decide) (.own (.plain rfl) rfl) (.rows (cs := [.ints .u8 b]) (.plain rfl) rfl (by simp [Col.len]) (fun i hi => by rw [hg i hi]; rfl)) (Col.ones rfl) (labs_ok rfl) (by omega) (by omega) rfl rfl
    apply Trace.buildSlice 9 [] so54 zo5 rfl (by decide) (by decide) (.cons (.plain rfl) rfl rfl (Nat.le_of_ble_eq_true rfl) (.nil _ _)) rfl rfl rfl
    apply Trace.append 0 [bk 8, sl 8] ap54 kd54 (by decide) (.own (.plain rfl) rfl) (.own (.plain rfl) rfl) (Col.ones rfl) (labs_ok rfl) (by omega) (by omega) rfl rfl
    apply Trace.pu [] (.assign (.plain rfl))
    exact .nil _
  · exact keepOK_of hk hn rfl
  apply WPA.seq
  apply WPA.block
  rw [ds_ints1]
  refine WPA.ghost (Ghost.colsLe (l := 0) (cs' := [.ints .u8 (b ++ [128])]) rfl rfl (by simp [Col.len]) (ds_ints (by simp))) ?_
  refine WPA.loop (σ := Nat) (fun j => [(sl 0, .av (.d (.rows 1 b.length g))), (sl 3, .av (.own 0 (b.length + 1 + j))), (bk 0, .blk (.app 1 (b.length + 1 + j) [.ints .u8 (padTo b j)]))]) (fun j => j ≤ padZ b) (fun j => padZ b - j) 0
    (St.le_cons rfl (St.le_cons (own_st2 (by omega)) (St.le_cons (app_eq rfl (by omega)) (St.le_nil _)))) (Nat.zero_le _) fun j hj => ?_
  apply WPA.seq
  apply WPA.seq
  apply WPA.region
  · apply Trace.pu [] (.move (.plain rfl))
    apply Trace.pu [] (.len rfl Tryd.underlying54 (.plain rfl) rfl)
    apply Trace.pu [] (.rem (.plain rfl) (.plain rfl) (fun _ => by decide))
    apply Trace.pu [] (.cmp (.plain rfl) (.plain rfl) rfl)
    exact .nil _
  · exact keepOK_of hk hn rfl
  have hz : padZ b = (119 - b.length % 64) % 64 := rfl
  have hcm : (((b.length + 1 + j : Nat) : Int)).tmod 64 = (((b.length + 1 + j) % 64 : Nat) : Int) := by rw [Int.tmod_eq_emod_of_nonneg (by omega)]; omega
  refine WPA.cond rfl (fun hc1 => ?_) (fun hc1 => ?_)
  · have hlt : j < padZ b := by
      rw [hcm] at hc1
      simp at hc1
      omega
    apply WPA.skip
    apply WPA.block
    apply WPA.region
    · apply Trace.pu [] (.move (.plain rfl))
      apply Trace.buildSlice 16 [] so54 zo5 rfl (by decide) (by decide) (.cons (.plain rfl) rfl rfl (Nat.le_of_ble_eq_true rfl) (.nil _ _)) rfl rfl rfl
      apply Trace.append 0 [sl 3, sl 15, sl 11] ap54 kd54 (by decide) (.own (.plain rfl) rfl) (.own (.plain rfl) rfl) (Col.ones rfl) (labs_ok rfl) (by omega) (by omega) rfl rfl
      apply Trace.pu [] (.assign (.plain rfl))
      exact .nil _
    · exact keepOK_of hk hn rfl
    exact ⟨j + 1, by omega, by omega, St.le_cons rfl (St.le_cons (own_st2 (by omega)) (St.le_cons (app_eq (by rw [padTo_succ]) (by omega)) (St.le_nil _)))⟩
  · have hend : j = padZ b := by
      rw [hcm] at hc1
      simp at hc1
      omega
    subst hend
    apply WPA.exit
    apply WPA.seq
    apply WPA.region
    · apply Trace.pu [] (.move (.plain rfl))
      apply Trace.pu [] (.len rfl Tryd.underlying54 (.plain rfl) rfl)
      apply Trace.pu [] ((Pure.conv Tryd.underlying3 Tryd.underlying91 (.plain rfl)).to (y := iv .u64 ((b.length : Nat) : Int)) (by rw [wrap_u64_id (by omega)]))
      apply Trace.pu [] ((Pure.arithW (.plain rfl) (.plain rfl) rfl).to (y := iv .u64 ((8 * b.length : Nat) : Int)) (congrArg (fun n => iv .u64 n) (by rw [wrap_u64_id (by omega)]; omega)))
      apply Trace.pu [] (.assign (.plain rfl))
      exact .nil _
    · exact keepOK_of hk hn rfl
    apply WPA.seq
    apply WPA.seq
    apply WPA.region
    · apply Trace.pu [] (.assign (.plain rfl))
      exact .nil _
    · exact keepOK_of hk hn rfl
    apply WPA.block
    refine WPA.loop (σ := Nat) (fun m => [(sl 3, .av (.own 0 (b.length + 1 + padZ b + m))), (sl 4, .av (iv .u64 ((8 * b.length : Nat) : Int))), (sl 5, .av (iv .i64 (7 - (m : Int)))), (bk 0, .blk (.app 1 (b.length + 1 + padZ b + m) [.ints .u8 (padEnd b m)]))]) (fun m => m ≤ 8) (fun m => 8 - m) 0
      (St.le_cons rfl (St.le_cons rfl (St.le_cons rfl (St.le_cons (app_eq (by rw [padEnd_zero]) rfl) (St.le_nil _))))) (Nat.zero_le _) fun m hm => ?_
    apply WPA.seq
    apply WPA.seq
    apply WPA.region
    · apply Trace.pu [] (.move (.plain rfl))
      apply Trace.pu [] (.cmp (.plain rfl) (.plain rfl) rfl)
      exact .nil _
    · exact keepOK_of hk hn rfl
    refine WPA.cond rfl (fun hc2 => ?_) (fun hc2 => ?_)
    · have hlt : m < 8 := by simp at hc2; omega
      have hz : padZ b < 64 := Nat.mod_lt _ (by decide)
      obtain ⟨i, hie⟩ : ∃ i : Nat, (7 : Int) - (m : Int) = (i : Int) := ⟨7 - m, by omega⟩
      have him : i = 7 - m := by omega
      rw [hie]
      apply WPA.skip
      apply WPA.seq
      apply WPA.block
      apply WPA.region
      · apply Trace.pu [] (.move (.plain rfl))
        apply Trace.pu [] (.move (.plain rfl))
        apply Trace.pu [] (.move (.plain rfl))
        apply Trace.pu [] (.arith (.plain rfl) (.plain rfl) rfl (fun _ => bd64 (by omega)))
        apply Trace.pu [] (.shr (.plain rfl) (.plain rfl) (fun _ => by omega))
        apply Trace.pu [] ((Pure.conv Tryd.underlying91 Tryd.underlying5 (.plain rfl)).to (shr_byte (u := 8 * b.length) (i := i) (by omega)))
        apply Trace.buildSlice 32 [] so54 zo5 rfl (by decide) (by decide) (.cons (.plain rfl) rfl rfl (Nat.le_of_ble_eq_true rfl) (.nil _ _)) rfl rfl rfl
        apply Trace.append 0 [sl 3, sl 26] ap54 kd54 (by decide) (.own (.plain rfl) rfl) (.own (.plain rfl) rfl) (Col.ones rfl) (labs_ok rfl) (by omega) (by omega) rfl rfl
        apply Trace.pu [] (.assign (.plain rfl))
        exact .nil _
      · exact keepOK_of hk hn rfl
      apply WPA.region
      · apply Trace.pu [] (.move (.plain rfl))
        apply Trace.pu [] (.arith (.plain rfl) (.plain rfl) rfl (fun _ => bd64 (by omega)))
        apply Trace.pu [] (.assign (.plain rfl))
        exact .nil _
      · exact keepOK_of hk hn rfl
      exact ⟨m + 1, by omega, by omega, St.le_cons (own_st2 (by omega)) (St.le_cons rfl (St.le_cons (iv_eq (by omega)) (St.le_cons (app_eq (by rw [padEnd_succ hlt, him]) (by omega)) (St.le_nil _))))⟩
    · have hend : m = 8 := by simp at hc2; omega
      subst hend
      have hpl : (padM b).length = b.length + 1 + padZ b + 8 := by rw [← padEnd_all, padEnd_length (Nat.le_refl _)]
      rw [padEnd_all]
      apply WPA.exit
      apply WPA.seq
      apply WPA.region
      · apply Trace.pu [] (.move (.plain rfl))
        apply Trace.pu [] (.assign (.plain rfl))
        exact .nil _
      · exact keepOK_of hk hn rfl
      apply WPA.ret
      refine ⟨.inr rfl, ⟨_, (.cons (.tmp rfl) .nil), ?_⟩, blks_of (.cons (app_eq rfl (by omega)) .nil)⟩
      exact own_eq (by omega)
theorem padF (b : List Int) (g : Nat → List D) (hb : b.length ≤ 1000000) (hg : ∀ i, i < b.length → g i = [.v (.int .u8 (b.getD i 0))]) : FnSpec Tryd.prog 71 [.d (.rows 1 b.length g)] [] (.d (.rows 1 (padM b).length fun i => [.v (.int .u8 ((padM b).getD i 0))])) [] [] :=
  (spec71 b g hb hg).frozen fun i hi => rfl
theorem outB_get {s : V8} : ∀ q : Nat, q < 32 → (outB s).getD q 0 = (((s.l.getD (q / 4) 0).toNat / 2 ^ (24 - 8 * (q % 4)) % 256 : Nat) : Int)
  | 0, _ => rfl
  | 1, _ => rfl
  | 2, _ => rfl
  | 3, _ => rfl
  | 4, _ => rfl
  | 5, _ => rfl
  | 6, _ => rfl
  | 7, _ => rfl
  | 8, _ => rfl
  | 9, _ => rfl
  | 10, _ => rfl
  | 11, _ => rfl
  | 12, _ => rfl
  | 13, _ => rfl
  | 14, _ => rfl
  | 15, _ => rfl
  | 16, _ => rfl
  | 17, _ => rfl
  | 18, _ => rfl
  | 19, _ => rfl
  | 20, _ => rfl
  | 21, _ => rfl
  | 22, _ => rfl
  | 23, _ => rfl
  | 24, _ => rfl
  | 25, _ => rfl
  | 26, _ => rfl
  | 27, _ => rfl
  | 28, _ => rfl
  | 29, _ => rfl
  | 30, _ => rfl
  | 31, _ => rfl
  | q + 32, h => absurd h (by omega)
def outR (s : V8) (q : Nat) : List Int := (outB s).take q ++ List.replicate (32 - q) 0
theorem outR_length {s : V8} {q : Nat} (h : q ≤ 32) : (outR s q).length = 32 := by
  unfold outR
  rw [List.length_append, List.length_take, outB_length, List.length_replicate]
  omega
theorem outR_set {s : V8} {q : Nat} (h : q < 32) : (outR s q).set q ((outB s).getD q 0) = outR s (q + 1) := by
  have hl := outB_length s
  unfold outR
  have e : 32 - q = (32 - (q + 1)) + 1 := by omega
  have h1 : ((outB s).take q).length = q := by rw [List.length_take]; omega
  rw [e, List.replicate_succ, List.set_append, if_neg (by omega), h1, Nat.sub_self, List.set_cons_zero, take_succ' _ q (by omega), List.getD_eq_getElem?_getD, List.getElem?_eq_getElem (by omega), List.append_assoc]
  rfl
theorem outR_all (s : V8) : outR s 32 = outB s := by
  unfold outR
  rw [List.take_of_length_le (by rw [outB_length]; omega)]
  simp
theorem quo4 (q : Nat) (h : q ≤ 32) : IntKind.i64.wrap (((q : Nat) : Int).tdiv 4) = ((q / 4 : Nat) : Int) := by
  rw [Int.tdiv_eq_ediv_of_nonneg (by omega), wrap_i64_id (by omega)]
  omega
theorem rem4 (q : Nat) : ((q : Nat) : Int).tmod 4 = ((q % 4 : Nat) : Int) := by
  rw [Int.tmod_eq_emod_of_nonneg (by omega)]
  omega
theorem shr_out {s : V8} {q : Nat} {n : Int} (h : q < 32) (hn : n.toNat = 24 - 8 * (q % 4)) : iv .u8 (IntKind.u8.wrap (wi ((s.l.getD (q / 4) 0) >>> n.toNat))) = iv .u8 ((outB s).getD q 0) := by
  rw [outB_get q h, wrap_u8, hn]
  congr 3
  show (((_ >>> _ : W).toNat : Nat) : Int) % 256 = _
  rw [BitVec.toNat_ushiftRight, Nat.shiftRight_eq_div_pow]
  omega
theorem blk_take {b : List Int} {k i : Nat} (h : i < 64) : ((b.drop (64 * k)).take 64).getD i 0 = b.getD (64 * k + i) 0 := by
  simp [List.getD_eq_getElem?_getD, List.getElem?_take, List.getElem?_drop, h]
theorem blkF {s s2 : V8} {b : List Int} (h : s.blk b = s2) (g : Nat → List D) (hg : ∀ i, i < 64 → g i = [.v (.int .u8 (b.getD i 0))]) : FnSpec Tryd.prog 72 [.d (.agg (s.ws.map fun n => D.v (.int .u32 n))), .d (.rows 1 64 g)] [] (.d (.agg (s2.ws.map fun n => D.v (.int .u32 n)))) [] [] := by
  have := spec72 s b g hg
  rw [h] at this
  exact this
/-- soundpost/soundpostref02.Sum -/
theorem spec62 (b : List Int) (g : Nat → List D) (hb : b.length ≤ 1000000) (hg : ∀ i, i < b.length → g i = [.v (.int .u8 (b.getD i 0))]) : FnSpec Tryd.prog 62 [.d (.rows 1 b.length g)] [] (.d (byD (sumM b))) [] [] := by
  refine fnSpec_of (rs := [.cell 2 27]) Tryd.func62 rfl rfl (Nat.le_of_ble_eq_true rfl) (by simp [St.get]) fun E hk hn => ?_
  apply WPA.seq
  apply WPA.region
  · apply Trace.alloc 2 [] (.data (List.replicate 32 (D.v (.int .u8 0)))) zo27 (cellsAs_data _) rfl
    exact .nil _
  · exact keepOK_of hk hn rfl
  apply WPA.seq
  apply WPA.region
  · apply Trace.pu [] (.build zo94 pl94 (.cons (.plain rfl) rfl rfl (Nat.le_of_ble_eq_true rfl) (.cons (.plain rfl) rfl rfl (Nat.le_of_ble_eq_true rfl) (.cons (.plain rfl) rfl rfl (Nat.le_of_ble_eq_true rfl) (.cons (.plain rfl) rfl rfl (Nat.le_of_ble_eq_true rfl) (.cons (.plain rfl) rfl rfl (Nat.le_of_ble_eq_true rfl) (.cons (.plain rfl) rfl rfl (Nat.le_of_ble_eq_true rfl) (.cons (.plain rfl) rfl rfl (Nat.le_of_ble_eq_true rfl) (.cons (.plain rfl) rfl rfl (Nat.le_of_ble_eq_true rfl) (.nil _ _))))))))) rfl)
    apply Trace.alloc 3 [] (.data (List.replicate 8 (D.v (.int .u32 0)))) zo94 (cellsAs_data _) rfl
    apply Trace.storeD (cs' := hh0.ws.map fun n => D.v (.int .u32 n)) ty94 (.plain rfl) (.plain rfl) rfl rfl rfl (by simp [AV.oneB, single]) (by decide) (spliceL_all (by rfl))
    exact .nil _
  · exact keepOK_of hk hn rfl
  apply WPA.seq
  apply WPA.region
  · apply Trace.pu [] (.move (.plain rfl))
    apply Trace.cu (callArgs0 (.cons (.plain rfl) .nil)) (padF b g hb hg) en71
    apply Trace.pu [] (.assign (.plain rfl))
    exact .nil _
  · exact keepOK_of hk hn rfl
  apply WPA.seq
  apply WPA.seq
  apply WPA.region
  · apply Trace.pu [] (.assign (.plain rfl))
    exact .nil _
  · exact keepOK_of hk hn rfl
  apply WPA.block
  have hmod := pad_mod b
  have hpl := padM_length b
  obtain ⟨K, hK⟩ : ∃ K, (padM b).length / 64 = K := ⟨_, rfl⟩
  rw [hK] at hmod
  refine WPA.loop (σ := Nat) (fun k => [(sl 2, .av (.loc 2 0)), (sl 3, .av (.loc 3 0)), (sl 4, .av (.d (.rows 1 (padM b).length fun i => [.v (.int .u8 ((padM b).getD i 0))]))), (sl 5, .av (iv .i64 (64 * (k : Int)))), (bk 2, .blk (.data (List.replicate 32 (D.v (.int .u8 0))))), (bk 3, .blk (.data ((absN hh0 (padM b) k).ws.map fun n => D.v (.int .u32 n))))]) (fun k => k ≤ K) (fun k => K - k) 0
    (St.le_cons rfl (St.le_cons rfl (St.le_cons rfl (St.le_cons rfl (St.le_cons rfl (St.le_cons rfl (St.le_nil _))))))) (Nat.zero_le _) fun k hkk => ?_
  apply WPA.seq
  apply WPA.seq
  apply WPA.region
  · apply Trace.pu [] (.move (.plain rfl))
    apply Trace.pu [] (.move (.plain rfl))
    apply Trace.pu [] (.len rfl Tryd.underlying54 (.plain rfl) rfl)
    apply Trace.pu [] (.cmp (.plain rfl) (.plain rfl) rfl)
    exact .nil _
  · exact keepOK_of hk hn rfl
  refine WPA.cond rfl (fun hc1 => ?_) (fun hc1 => ?_)
  · have hlt : k < K := by simp at hc1; omega
    obtain ⟨v, hv⟩ : ∃ v, (absN hh0 (padM b) k) = v := ⟨_, rfl⟩
    obtain ⟨v2, hv2⟩ : ∃ v2, v.blk (((padM b).drop (64 * k)).take 64) = v2 := ⟨_, rfl⟩
    have hv1 : (absN hh0 (padM b) (k + 1)) = v2 := by rw [← hv2, ← hv]; rfl
    rw [hv]
    apply WPA.skip
    apply WPA.seq
    apply WPA.block
    apply WPA.draw mixed
    · apply Trace.pu [_] (.loadAllD ty94 (.plain rfl) rfl rfl)
      apply Trace.pu [] (.move (.plain rfl))
      apply Trace.pu [] (.move (.plain rfl))
      apply Trace.pu [] (.move (.plain rfl))
      apply Trace.pu [] (.arith (.plain rfl) (.plain rfl) rfl (fun _ => bd64 (by omega)))
      apply Trace.pu [] ((Pure.cutRows so54 (.plain rfl) (.to _ (.plain rfl) (fun _ => by omega)) (.to _ (.plain rfl) (fun _ => by omega)) (fun _ => ⟨by omega, by omega⟩)).to (y := .d (.rows 1 64 fun j => [.v (.int .u8 ((padM b).getD ((64 * (k : Int)).toNat + j) 0))])) (congrArg AV.d (congrArg (fun n => D.rows 1 n _) (by omega))))
      apply Trace.cu (callArgs0 (.cons (.plain rfl) (.cons (.plain rfl) .nil))) (blkF hv2 _ (fun i hi => by rw [blk_take hi, show (64 * (k : Int)).toNat = 64 * k by omega])) en72
      apply Trace.storeD (cs' := v2.ws.map fun n => D.v (.int .u32 n)) ty94 (.plain rfl) (.plain rfl) rfl rfl rfl (by simp [AV.oneB, single]) (Nat.le_of_ble_eq_true rfl) (spliceL_all (by rfl))
      exact .nil _
    · rfl
    · exact keepOK_of hk hn rfl
    apply WPA.region
    · apply Trace.pu [] (.move (.plain rfl))
      apply Trace.pu [] (.arith (.plain rfl) (.plain rfl) rfl (fun _ => bd64 (by omega)))
      apply Trace.pu [] (.assign (.plain rfl))
      exact .nil _
    · exact keepOK_of hk hn rfl
    exact ⟨k + 1, by omega, by omega, St.le_cons rfl (St.le_cons rfl (St.le_cons rfl (St.le_cons (iv_eq (by omega)) (St.le_cons rfl (St.le_cons (by rw [hv1]; rfl) (St.le_nil _))))))⟩
  · have hend : k = K := by simp at hc1; omega
    subst hend
    obtain ⟨s, hs⟩ : ∃ s, (absN hh0 (padM b) k) = s := ⟨_, rfl⟩
    rw [hs]
    have hsum : sumM b = outB s := by rw [sumM, hK, hs]
    apply WPA.exit
    apply WPA.seq
    apply WPA.region
    · apply Trace.pu [] (.build zo27 pl27 (.nil _ _) rfl)
      apply Trace.alloc 6 [] (.data (List.replicate 32 (D.v (.int .u8 0)))) zo27 (cellsAs_data _) rfl
      apply Trace.storeD (cs' := List.replicate 32 (D.v (.int .u8 0))) ty27 (.plain rfl) (.plain rfl) rfl rfl rfl (by simp [AV.oneB, single]) (by decide) (spliceL_all (by rfl))
      exact .nil _
    · exact keepOK_of hk hn rfl
    apply WPA.seq
    apply WPA.seq
    apply WPA.region
    · apply Trace.pu [] (.assign (.plain rfl))
      exact .nil _
    · exact keepOK_of hk hn rfl
    apply WPA.block
    refine WPA.ghost (Ghost.dataCols (l := 3) (n := 8) (col := .ints .u32 s.ws) rfl rfl rfl) ?_
    refine WPA.ghost (Ghost.dataCols (l := 6) (n := 32) (col := .ints .u8 (List.replicate 32 0)) rfl rfl rfl) ?_
    refine WPA.loop (σ := Nat) (fun q => [(sl 2, .av (.loc 2 0)), (sl 3, .av (.loc 3 0)), (sl 6, .av (.loc 6 0)), (sl 7, .av (iv .i64 (q))), (bk 2, .blk (.data (List.replicate 32 (D.v (.int .u8 0))))), (bk 3, .blk (.cols 1 8 [.ints .u32 s.ws])), (bk 6, .blk (.cols 1 32 [.ints .u8 (outR s q)]))]) (fun q => q ≤ 32) (fun q => 32 - q) 0
      (St.le_cons rfl (St.le_cons rfl (St.le_cons rfl (St.le_cons rfl (St.le_cons rfl (St.le_cons rfl (St.le_cons rfl (St.le_nil _)))))))) (Nat.zero_le _) fun q hq => ?_
    apply WPA.seq
    apply WPA.seq
    apply WPA.region
    · apply Trace.pu [] (.move (.plain rfl))
      apply Trace.pu [] (.cmp (.plain rfl) (.plain rfl) rfl)
      exact .nil _
    · exact keepOK_of hk hn rfl
    refine WPA.cond rfl (fun hc2 => ?_) (fun hc2 => ?_)
    · have hlt : q < 32 := by simp at hc2; omega
      have hol := outR_length (s := s) (q := q) (by omega)
      apply WPA.skip
      apply WPA.seq
      apply WPA.block
      apply WPA.region
      · apply Trace.pu [] (.move (.plain rfl))
        apply Trace.pu [] (.move (.plain rfl))
        apply Trace.pu [] ((Pure.quo (.plain rfl) (.plain rfl) (fun _ => by decide)).to (y := iv .i64 ((q / 4 : Nat) : Int)) (congrArg (fun n => iv .i64 n) (quo4 q (by omega))))
        apply Trace.pu [] (.indexArr ar94 (.plain rfl) (.plain rfl) (fun _ => ⟨by omega, by omega⟩))
        apply Trace.pu [_] ((Pure.loadCol1 ty93 (.plain rfl) rfl rfl rfl (fun _ => by omega)).to (y := wv (s.l.getD (q / 4) 0)) (by exact ws_at (by omega) (by omega)))
        apply Trace.pu [] (.move (.plain rfl))
        apply Trace.pu [] ((Pure.rem (.plain rfl) (.plain rfl) (fun _ => by decide)).to (y := iv .i64 ((q % 4 : Nat) : Int)) (congrArg (fun n => iv .i64 n) (rem4 q)))
        apply Trace.pu [] (.arith (.plain rfl) (.plain rfl) rfl (fun _ => bd64 (by omega)))
        apply Trace.pu [] (.arith (.plain rfl) (.plain rfl) rfl (fun _ => bd64 (by omega)))
        apply Trace.pu [] (.wshr (.plain rfl) (.plain rfl) (fun _ => by omega) (fun _ => by omega))
        apply Trace.pu [] ((Pure.conv Tryd.underlying93 Tryd.underlying5 (.plain rfl)).to (shr_out hlt (by omega)))
        apply Trace.pu [] (.indexArr ar27 (.plain rfl) (.plain rfl) (fun _ => ⟨by omega, by omega⟩))
        apply Trace.storeRow ty5 (.plain rfl) (.plain rfl) rfl rfl rfl rfl (by decide) (by simp [AV.oneB, single]) rfl (by omega)
        exact .nil _
      · exact keepOK_of hk hn rfl
      apply WPA.region
      · apply Trace.pu [] (.move (.plain rfl))
        apply Trace.pu [] (.arith (.plain rfl) (.plain rfl) rfl (fun _ => bd64 (by omega)))
        apply Trace.pu [] (.assign (.plain rfl))
        exact .nil _
      · exact keepOK_of hk hn rfl
      exact ⟨q + 1, by omega, by omega, St.le_cons rfl (St.le_cons rfl (St.le_cons rfl (St.le_cons (iv_eq (by omega)) (St.le_cons rfl (St.le_cons rfl (St.le_cons (blk_eq (by show Blk.cols 1 32 [.ints .u8 ((outR s q).set (q : Int).toNat _)] = _; rw [Int.toNat_natCast, outR_set hlt])) (St.le_nil _)))))))⟩
    · have hend : q = 32 := by simp at hc2; omega
      subst hend
      rw [outR_all]
      apply WPA.exit
      apply WPA.seq
      refine WPA.ghost (Ghost.colsData (l := 6) rfl) ?_
      apply WPA.region
      · apply Trace.pu [_] (.loadAllD ty27 (.plain rfl) rfl (by simp [outB_length]))
        apply Trace.storeD (cs' := (outB s).map fun x => .v (.int .u8 x)) ty27 (.plain rfl) (.plain rfl) rfl rfl (by simp [outB_length]) (by_one _) (by decide) (spliceL_all (by simp [outB_length]))
        exact .nil _
      · exact keepOK_of hk hn rfl
      apply WPA.ret
      refine ⟨.inr rfl, ⟨_, (.cons (.cellD rfl rfl ty27 (by simp [outB_length])) .nil), ?_⟩, by simp [St.get]⟩
      rw [hsum]
      rfl
theorem refSum_str (s : ByteArray) (h : s.size ≤ 1000000) : FnSpec Tryd.prog 62 [.d (strD s)] [] (.d (byD (sumM (bytesI s)))) [] [] := by
  have := spec62 (bytesI s) (fun i => [.v (.int .u8 ((s.data.toList.getD i 0).toNat : Int))]) (by rw [bytesI_length]; exact h) (fun i hi => by
    rw [bytesI_length] at hi
    have : i < s.data.size := hi
    have h2 : s.data[i]? = some s.data[i] := Array.getElem?_eq_getElem this
    simp [bytesI, List.getD_eq_getElem?_getD, h2])
  rw [bytesI_length] at this
  exact this
theorem tag_cols {x b : List Int} : joined (joined (colsFrom 1 0 []) [.ints .u8 x]) [.ints .u8 b] = [Col.ds ((x ++ b).map fun x => .v (.int .u8 x))] := by
  show joined (joined [.ds []] [.ints .u8 x]) [.ints .u8 b] = _
  simp [joined, catCols, Col.cat]
theorem refSum_own (x b : List Int) (n : Nat) (hn : x.length + b.length = n) (h : n ≤ 1000000) : FnSpec Tryd.prog 62 [.own 13 n] [(bk 13, .blk (.app 1 n (joined (joined (colsFrom 1 0 []) [.ints .u8 x]) [.ints .u8 b])))] (.d (byD (sumM (x ++ b)))) [] [] := by
  have hl : (x ++ b).length = n := by simp [hn]
  refine FnSpec.thaw (A1 := []) (A2 := []) (l := 13) (n := 1) (len := n) (g := fun i => [.v (.int .u8 ((x ++ b).getD i 0))]) ?_ (fun i hi => ?_) rfl
  · have := spec62 (x ++ b) (fun i => [.v (.int .u8 ((x ++ b).getD i 0))]) (by omega) (fun i hi => rfl)
    rw [hl] at this
    exact this
  · rw [tag_cols]
    have hi2 : i < (x ++ b).length := by omega
    generalize x ++ b = z at *
    simp [Col.at, List.getD_eq_getElem?_getD, hi2]
/-- soundpost/soundpostref02.Tagged -/
theorem spec46 (s : ByteArray) (hs : s.size ≤ 1000) (b : List Int) (g : Nat → List D) (hb : b.length ≤ 900000) (hg : ∀ i, i < b.length → g i = [.v (.int .u8 (b.getD i 0))]) : FnSpec Tryd.prog 46 [sv s, .d (.rows 1 b.length g)] [] (.d (byD (tagM (bytesI s) b))) [] [] := by
  refine fnSpec_of (rs := [.cell 4 27]) Tryd.func46 rfl rfl (Nat.le_of_ble_eq_true rfl) (by simp [St.get]) fun E hk hn => ?_
  apply WPA.seq
  apply WPA.region
  · apply Trace.alloc 4 [] (.data (List.replicate 32 (D.v (.int .u8 0)))) zo27 (cellsAs_data _) rfl
    exact .nil _
  · exact keepOK_of hk hn rfl
  apply WPA.seq
  apply WPA.region
  · apply Trace.pu [] (.move (.plain rfl))
    apply Trace.strBytes bs54 Tryd.underlying9 (.plain rfl)
    apply Trace.cu (callArgs0 (.cons (.plain rfl) .nil)) (refSum_str s (by omega)) en62
    apply Trace.alloc 5 [] (.data (List.replicate 32 (D.v (.int .u8 0)))) zo27 (cellsAs_data _) rfl
    apply Trace.storeD (cs' := (sumM (bytesI s)).map fun x => .v (.int .u8 x)) ty27 (.plain rfl) (.plain rfl) rfl rfl (by simp [sumM_length]) (by_one _) (by decide) (spliceL_all (by simp [sumM_length]))
    exact .nil _
  · exact keepOK_of hk hn rfl
  apply WPA.seq
  refine WPA.ghost (Ghost.freezeLoc (t := 5) (l := 5) rfl rfl) ?_
  have hsl := sumM_length (bytesI s)
  apply WPA.region
  · apply Trace.buildSlice 9 [] so54 zo5 rfl (by decide) (by decide) (.nil _ _) rfl rfl rfl
    apply Trace.pu [] (.sliceRp ar27 (.plain rfl) (fun _ => by simp [sumM_length]))
    apply Trace.append 11 [bk 9, sl 9] ap54 kd54 (by decide) (.own (.plain rfl) rfl) (.rows (cs := [.ints .u8 (sumM (bytesI s))]) (.plain rfl) rfl (by simp [Col.len, sumM_length]) (fun i hi => by simp [Col.at, List.getD_eq_getElem?_getD, show i < (sumM (bytesI s)).length by omega])) (Col.ones rfl) (labs_ok rfl) (by omega) (by omega) rfl rfl
    apply Trace.pu [] (.move (.plain rfl))
    apply Trace.append 13 [bk 11, sl 11] ap54 kd54 (by decide) (.own (.plain rfl) rfl) (.rows (cs := [.ints .u8 b]) (.plain rfl) rfl (by simp [Col.len]) (fun i hi => by rw [hg i hi]; rfl)) (Col.ones rfl) (labs_ok rfl) (by omega) (by omega) rfl rfl
    apply Trace.cb [] [bk 13] (callArgs0 (.cons (.plain rfl) .nil)) (refSum_own (sumM (bytesI s)) b (0 + 32 + b.length) (by omega) (by omega)) en62 (.cons rfl .nil) rfl rfl
    apply Trace.storeD (cs' := (sumM (sumM (bytesI s) ++ b)).map fun x => .v (.int .u8 x)) ty27 (.plain rfl) (.plain rfl) rfl rfl (by simp [sumM_length]) (by_one _) (by decide) (spliceL_all (by simp [sumM_length]))
    exact .nil _
  · exact keepOK_of hk hn rfl
  apply WPA.ret
  refine ⟨.inr rfl, ⟨_, (.cons (.cellD rfl rfl ty27 (by simp [sumM_length])) .nil), ?_⟩, by simp [St.get]⟩
  rfl

end Go.Proofs.YtmdfamnnnoieaaaDoor


/- The specification of codec: well-formed, depth, Check, parts; making values. -/
namespace Go.Proofs.YtmdfamnnnoieaaaDoor
open Go
set_option linter.unusedVariables false
set_option linter.unusedSimpArgs false
set_option maxRecDepth 10000

/-- soundpost/soundpostref01.Int -/
theorem raw23 (n : Int) : FnSpec Tryd.prog 44 [iv .i64 n] [] (.d (.agg [.v (.int .i64 1), .v (.int .i64 n), .v (.string ⟨#[]⟩), .v (.slice none 0 0)])) [] [] := by
  refine fnSpec_of (rs := [.cell 2 53]) Tryd.func44 rfl rfl (Nat.le_of_ble_eq_true rfl) (by simp [St.get]) fun E hk hn => ?_
  apply WPA.seq
  apply WPA.region
  · apply Trace.alloc 2 [] (.data _) zo53 (cellsAs_data _) rfl
    exact .nil _
  · exact keepOK_of hk hn rfl
  apply WPA.seq
  apply WPA.region
  · apply Trace.pu [] (.move (.plain rfl))
    apply Trace.pu [] (.build zo53 pl53 (.cons (.plain rfl) rfl rfl (Nat.le_of_ble_eq_true rfl) (.cons (.plain rfl) rfl rfl (Nat.le_of_ble_eq_true rfl) (.nil _ _))) rfl)
    first | apply Trace.storeD ty53 (.plain rfl) (.plain rfl) rfl rfl (by simp [Val.cells_length]) (by first | exact Val.cells_one _ | simp [AV.oneB, single]) (by simp [Val.cells_length]) (spliceL_all (by simp [Val.cells_length])) | apply Trace.storeD ty53 (.plain rfl) (.plain rfl) rfl rfl (by simp [Val.cells_length]) (by first | exact Val.cells_one _ | simp [AV.oneB, single]) (by simp [Val.cells_length]) rfl | apply Trace.storeDA ty53 (.plain rfl) (.plain rfl) rfl rfl (by simp [Val.cells_length]) (by simp [AV.oneB, single]) (by simp [Val.cells_length]) rfl | apply Trace.storeLoc ty53 (.plain rfl) (.plain rfl) rfl rfl (by simp [Val.cells_length]) (by simp [AV.oneB, single]) (by simp) rfl | apply Trace.storeRow ty53 (.plain rfl) (.plain rfl) rfl rfl rfl rfl (by decide) (by simp [AV.oneB, single]) rfl (by omega)
    exact .nil _
  · exact keepOK_of hk hn rfl
  apply WPA.ret
  refine ⟨.inr rfl, ⟨_, (.cons (.cellD rfl rfl ty53 rfl) .nil), ?_⟩, by simp [St.get]⟩
  rfl
theorem spec44 (n : Int) : FnSpec Tryd.prog 44 [iv .i64 n] [] (Val.mk 1 n ⟨#[]⟩ []).av [] [] := (raw23 n).resLe (den_aggLe (.same (.same (.same (.rows .nil)))))
/-- soundpost/soundpostref01.Formed -/
theorem spec67 (v : Val) (hz : v.Sz) : FnSpec Tryd.prog 67 [v.av] [] (bv v.formed) [] [] := by
  induction hz
  rename_i k n s l h1 h2 h3 h4 hm ih
  refine fnSpec_of (rs := [.tmp 2]) Tryd.func67 rfl rfl (Nat.le_of_ble_eq_true rfl) (by simp [St.get]) fun E hk hn => ?_
  apply WPA.seq
  apply WPA.region
  · first | apply Trace.boxD 1 [] (.plain rfl) rfl rfl | apply Trace.box 1 [] (.plain rfl) rfl rfl rfl
    apply Trace.pu [] (.assign (.plain rfl))
    exact .nil _
  · exact keepOK_of hk hn rfl
  apply WPA.seq
  apply WPA.seq
  apply WPA.region
  · apply Trace.pu [] (.fieldAddr fl53_0 (.plain rfl) rfl)
    first | apply Trace.pu [_] (.loadLoc1D ty3 (.plain rfl) rfl rfl) | apply Trace.pu [_] (.loadLoc1 ty3 (.plain rfl) rfl rfl) | apply Trace.pu [] (.loadRp1 ty3 (.plain rfl) rfl) | apply Trace.pu [_] (.loadCol1 ty3 (.plain rfl) rfl rfl rfl (fun _ => by omega))
    exact .nil _
  · exact keepOK_of hk hn rfl
  apply WPA.block
  apply WPA.seq
  apply WPA.region
  · apply Trace.pu [] (.cmp (.plain rfl) (.plain rfl) rfl)
    apply Trace.pu [] (.assign (.plain rfl))
    exact .nil _
  · exact keepOK_of hk hn rfl
  refine WPA.cond rfl (fun hc1 => ?_) (fun hc1 => ?_)
  · have hk1 : k = 1 := by simpa using hc1
    apply WPA.seq
    apply WPA.region
    · apply Trace.pu [] (.fieldAddr fl53_2 (.plain rfl) rfl)
      first | apply Trace.pu [_] (.loadLoc1D ty9 (.plain rfl) rfl rfl) | apply Trace.pu [_] (.loadLoc1 ty9 (.plain rfl) rfl rfl) | apply Trace.pu [] (.loadRp1 ty9 (.plain rfl) rfl) | apply Trace.pu [_] (.loadCol1 ty9 (.plain rfl) rfl rfl rfl (fun _ => by omega))
      apply Trace.pu [] (.seq (.plain rfl) (.plain rfl))
      apply Trace.pu [] (.move (.plain rfl))
      apply Trace.pg [] rfl (.fieldAddr fl53_3 (.plain rfl) rfl)
      first | apply Trace.pg [_] rfl (.loadLoc1D ty51 (.gd rfl (fun h => h)) rfl rfl) | apply Trace.pg [_] rfl (.loadLoc1 ty51 (.gd rfl (fun h => h)) rfl rfl) | apply Trace.pg [] rfl (.loadRp1 ty51 (.gd rfl (fun h => h)) rfl) | apply Trace.pg [_] rfl (.loadCol1 ty51 (.gd rfl (fun h => h)) rfl rfl rfl (fun _ => by omega))
      apply Trace.pg [] rfl (.len rfl Tryd.underlying51 (.gd rfl (fun h => h)) rfl)
      apply Trace.pg [] rfl (.cmp (.gd rfl (fun h => h)) (.plain rfl) rfl)
      apply Trace.pu [] (.pick (.plain rfl) (.gd rfl (by simp)) (.plain rfl))
      apply Trace.pu [] (.assign (.plain rfl))
      exact .nil _
    · exact keepOK_of hk hn rfl
    apply WPA.ret
    refine ⟨.inr rfl, ⟨_, (.cons (.tmp rfl) .nil), ?_⟩, by simp [St.get]⟩
    rw [Val.formed_eq]; simp [hk1, resOf, D.ofV, Bool.cond_eq_ite]
  · have hk1 : ¬ k = 1 := by simpa using hc1
    apply WPA.seq
    apply WPA.region
    · apply Trace.pu [] (.cmp (.plain rfl) (.plain rfl) rfl)
      apply Trace.pu [] (.assign (.plain rfl))
      exact .nil _
    · exact keepOK_of hk hn rfl
    refine WPA.cond rfl (fun hc2 => ?_) (fun hc2 => ?_)
    · have hk2 : k = 2 := by simpa using hc2
      apply WPA.seq
      apply WPA.region
      · apply Trace.pu [] (.fieldAddr fl53_1 (.plain rfl) rfl)
        first | apply Trace.pu [_] (.loadLoc1D ty3 (.plain rfl) rfl rfl) | apply Trace.pu [_] (.loadLoc1 ty3 (.plain rfl) rfl rfl) | apply Trace.pu [] (.loadRp1 ty3 (.plain rfl) rfl) | apply Trace.pu [_] (.loadCol1 ty3 (.plain rfl) rfl rfl rfl (fun _ => by omega))
        apply Trace.pu [] (.cmp (.plain rfl) (.plain rfl) rfl)
        apply Trace.pu [] (.move (.plain rfl))
        apply Trace.pg [] rfl (.fieldAddr fl53_3 (.plain rfl) rfl)
        first | apply Trace.pg [_] rfl (.loadLoc1D ty51 (.gd rfl (fun h => h)) rfl rfl) | apply Trace.pg [_] rfl (.loadLoc1 ty51 (.gd rfl (fun h => h)) rfl rfl) | apply Trace.pg [] rfl (.loadRp1 ty51 (.gd rfl (fun h => h)) rfl) | apply Trace.pg [_] rfl (.loadCol1 ty51 (.gd rfl (fun h => h)) rfl rfl rfl (fun _ => by omega))
        apply Trace.pg [] rfl (.len rfl Tryd.underlying51 (.gd rfl (fun h => h)) rfl)
        apply Trace.pg [] rfl (.cmp (.gd rfl (fun h => h)) (.plain rfl) rfl)
        apply Trace.pu [] (.pick (.plain rfl) (.gd rfl (by simp)) (.plain rfl))
        apply Trace.pu [] (.assign (.plain rfl))
        exact .nil _
      · exact keepOK_of hk hn rfl
      apply WPA.ret
      refine ⟨.inr rfl, ⟨_, (.cons (.tmp rfl) .nil), ?_⟩, by simp [St.get]⟩
      rw [Val.formed_eq]; simp [hk1, hk2, resOf, D.ofV, Bool.cond_eq_ite]
    · have hk2 : ¬ k = 2 := by simpa using hc2
      apply WPA.seq
      apply WPA.region
      · apply Trace.pu [] (.cmp (.plain rfl) (.plain rfl) rfl)
        apply Trace.pu [] (.assign (.plain rfl))
        exact .nil _
      · exact keepOK_of hk hn rfl
      refine WPA.cond rfl (fun hc3 => ?_) (fun hc3 => ?_)
      · have hk3 : k = 3 := by simpa using hc3
        apply WPA.seq
        apply WPA.seq
        apply WPA.region
        · apply Trace.pu [] (.assign (.plain rfl))
          exact .nil _
        · exact keepOK_of hk hn rfl
        apply WPA.block
        refine WPA.loop (σ := Nat) (fun i => [(sl 1, .av (.loc 1 0)), (sl 3, .av (iv .i64 i)), (bk 1, .blk (.data (Val.mk k n s l).cells))]) (fun i => i ≤ l.length ∧ Val.formeds (l.take i) = true) (fun i => l.length - i) 0
          (St.le_cons rfl (St.le_cons rfl (St.le_cons rfl (St.le_nil _)))) ⟨Nat.zero_le _, rfl⟩ fun i hi => ?_
        apply WPA.seq
        apply WPA.seq
        apply WPA.region
        · apply Trace.pu [] (.move (.plain rfl))
          apply Trace.pu [] (.fieldAddr fl53_3 (.plain rfl) rfl)
          first | apply Trace.pu [_] (.loadLoc1D ty51 (.plain rfl) rfl rfl) | apply Trace.pu [_] (.loadLoc1 ty51 (.plain rfl) rfl rfl) | apply Trace.pu [] (.loadRp1 ty51 (.plain rfl) rfl) | apply Trace.pu [_] (.loadCol1 ty51 (.plain rfl) rfl rfl rfl (fun _ => by omega))
          apply Trace.pu [] (.len rfl Tryd.underlying51 (.plain rfl) rfl)
          apply Trace.pu [] (.cmp (.plain rfl) (.plain rfl) rfl)
          exact .nil _
        · exact keepOK_of hk hn rfl
        refine WPA.cond rfl (fun hc4 => ?_) (fun hc4 => ?_)
        · have hlt : i < l.length := by simpa using hc4
          apply WPA.skip
          apply WPA.seq
          apply WPA.block
          apply WPA.seq
          apply WPA.region
          · apply Trace.pu [] (.fieldAddr fl53_3 (.plain rfl) rfl)
            first | apply Trace.pu [_] (.loadLoc1D ty51 (.plain rfl) rfl rfl) | apply Trace.pu [_] (.loadLoc1 ty51 (.plain rfl) rfl rfl) | apply Trace.pu [] (.loadRp1 ty51 (.plain rfl) rfl) | apply Trace.pu [_] (.loadCol1 ty51 (.plain rfl) rfl rfl rfl (fun _ => by omega))
            apply Trace.pu [] (.move (.plain rfl))
            first | apply Trace.pu [] (.indexRows el51 (.plain rfl) (.plain rfl) (fun _ => ⟨by omega, by omega⟩)) | apply Trace.pu [] (.indexOwn el51 (.plain rfl) (.plain rfl) (fun _ => ⟨by omega, by omega⟩)) | apply Trace.pu [] (.indexSl el51 (.plain rfl) (.plain rfl) (fun _ => ⟨by omega, by omega⟩)) | apply Trace.pu [] (.indexSa el51 (.plain rfl) (.plain rfl) (fun _ => ⟨by omega, by omega⟩))
            apply Trace.pu [] ((Pure.loadRp ty53 (.plain rfl) (fun _ => by rw [Val.row_length l _ (by omega)]; exact Nat.le_refl 4)).to (y := (l[i]).av) (by show AV.d (.agg ((Val.row l ((i : Int)).toNat).take 4)) = _; rw [Val.row_take l _ (by omega)]; simp))
            apply Trace.cu (callArgs0 (.cons (.plain rfl) .nil)) (ih l[i] (List.getElem_mem hlt)) en67
            apply Trace.pu [] (.not (.plain rfl))
            exact .nil _
          · exact keepOK_of hk hn rfl
          refine WPA.cond rfl (fun hc5 => ?_) (fun hc5 => ?_)
          · have hb : l[i].formed = false := by simpa using hc5
            apply WPA.seq
            apply WPA.region
            · apply Trace.pu [] (.assign (.plain rfl))
              exact .nil _
            · exact keepOK_of hk hn rfl
            apply WPA.ret
            refine ⟨.inr rfl, ⟨_, (.cons (.tmp rfl) .nil), ?_⟩, by simp [St.get]⟩
            have : Val.formeds l = false := by
              cases h : Val.formeds l with
              | false => rfl
              | true => rw [Val.formeds_mem h _ (List.getElem_mem hlt)] at hb; cases hb
            rw [Val.formed_eq, this]; simp [hk1, hk2, resOf, D.ofV]
          · have hb : l[i].formed = true := by simpa using hc5
            apply WPA.skip
            apply WPA.region
            · apply Trace.pu [] (.move (.plain rfl))
              apply Trace.pu [] (.arith (.plain rfl) (.plain rfl) rfl (fun _ => bd64 (by omega)))
              apply Trace.pu [] (.assign (.plain rfl))
              exact .nil _
            · exact keepOK_of hk hn rfl
            exact ⟨i + 1, ⟨by omega, by rw [take_succ' l i hlt, Val.formeds_append]; simp [Val.formeds, hb, hi.2]⟩, by omega, St.le_cons rfl (St.le_cons (iv_eq (by omega)) (St.le_cons rfl (St.le_nil _)))⟩
        · have hil : i = l.length := by
            have h1 := hi.1
            have : ¬ ((i : Int) < l.length) := by simpa using hc4
            omega
          have hfl : Val.formeds l = true := by have := hi.2; rwa [hil, List.take_length] at this
          apply WPA.exit
          apply WPA.seq
          apply WPA.region
          · apply Trace.pu [] (.fieldAddr fl53_1 (.plain rfl) rfl)
            first | apply Trace.pu [_] (.loadLoc1D ty3 (.plain rfl) rfl rfl) | apply Trace.pu [_] (.loadLoc1 ty3 (.plain rfl) rfl rfl) | apply Trace.pu [] (.loadRp1 ty3 (.plain rfl) rfl) | apply Trace.pu [_] (.loadCol1 ty3 (.plain rfl) rfl rfl rfl (fun _ => by omega))
            apply Trace.pu [] (.cmp (.plain rfl) (.plain rfl) rfl)
            apply Trace.pu [] (.move (.plain rfl))
            apply Trace.pg [] rfl (.fieldAddr fl53_2 (.plain rfl) rfl)
            first | apply Trace.pg [_] rfl (.loadLoc1D ty9 (.gd rfl (fun h => h)) rfl rfl) | apply Trace.pg [_] rfl (.loadLoc1 ty9 (.gd rfl (fun h => h)) rfl rfl) | apply Trace.pg [] rfl (.loadRp1 ty9 (.gd rfl (fun h => h)) rfl) | apply Trace.pg [_] rfl (.loadCol1 ty9 (.gd rfl (fun h => h)) rfl rfl rfl (fun _ => by omega))
            apply Trace.pg [] rfl (.seq (.gd rfl (fun h => h)) (.plain rfl))
            apply Trace.pu [] (.pick (.plain rfl) (.gd rfl (by simp)) (.plain rfl))
            apply Trace.pu [] (.assign (.plain rfl))
            exact .nil _
          · exact keepOK_of hk hn rfl
          apply WPA.ret
          refine ⟨.inr rfl, ⟨_, (.cons (.tmp rfl) .nil), ?_⟩, by simp [St.get]⟩
          rw [Val.formed_eq, hfl]; simp [hk1, hk2, hk3, resOf, D.ofV, Bool.cond_eq_ite]
      · have hk3 : ¬ k = 3 := by simpa using hc3
        apply WPA.skip
        apply WPA.seq
        apply WPA.region
        · apply Trace.pu [] (.assign (.plain rfl))
          exact .nil _
        · exact keepOK_of hk hn rfl
        apply WPA.ret
        refine ⟨.inr rfl, ⟨_, (.cons (.tmp rfl) .nil), ?_⟩, by simp [St.get]⟩
        rw [Val.formed_eq]; simp [hk1, hk2, hk3, resOf, D.ofV]
/-- soundpost/soundpostref01.Depth -/
theorem spec68 (v : Val) (hz : v.Sz) (hd : v.depth ≤ 4611686018427387904) : FnSpec Tryd.prog 68 [v.av] [] (iv .i64 v.depth) [] [] := by
  revert hd
  induction hz
  rename_i k n s l h1 h2 h3 h4 hm ih
  intro hd
  refine fnSpec_of (rs := [.tmp 2]) Tryd.func68 rfl rfl (Nat.le_of_ble_eq_true rfl) (by simp [St.get]) fun E hk hn => ?_
  apply WPA.seq
  apply WPA.region
  · first | apply Trace.boxD 1 [] (.plain rfl) rfl rfl | apply Trace.box 1 [] (.plain rfl) rfl rfl rfl
    apply Trace.pu [] (.assign (.plain rfl))
    exact .nil _
  · exact keepOK_of hk hn rfl
  apply WPA.seq
  apply WPA.seq
  apply WPA.region
  · apply Trace.pu [] (.fieldAddr fl53_0 (.plain rfl) rfl)
    first | apply Trace.pu [_] (.loadLoc1D ty3 (.plain rfl) rfl rfl) | apply Trace.pu [_] (.loadLoc1 ty3 (.plain rfl) rfl rfl) | apply Trace.pu [] (.loadRp1 ty3 (.plain rfl) rfl) | apply Trace.pu [_] (.loadCol1 ty3 (.plain rfl) rfl rfl rfl (fun _ => by omega))
    apply Trace.pu [] (.cmp (.plain rfl) (.plain rfl) rfl)
    exact .nil _
  · exact keepOK_of hk hn rfl
  refine WPA.cond rfl (fun hc1 => ?_) (fun hc1 => ?_)
  · have hk3 : k ≠ 3 := by simpa using hc1
    apply WPA.seq
    apply WPA.region
    · apply Trace.pu [] (.assign (.plain rfl))
      exact .nil _
    · exact keepOK_of hk hn rfl
    apply WPA.ret
    refine ⟨.inr rfl, ⟨_, (.cons (.tmp rfl) .nil), ?_⟩, by simp [St.get]⟩
    simp [Val.depth, hk3, resOf, D.ofV]
  · have hk3 : k = 3 := by simpa using hc1
    have hdl : Val.depths l + 1 ≤ 4611686018427387904 := by
      simp only [Val.depth, hk3, if_true] at hd; omega
    apply WPA.skip
    apply WPA.seq
    apply WPA.region
    · apply Trace.pu [] (.assign (.plain rfl))
      exact .nil _
    · exact keepOK_of hk hn rfl
    apply WPA.seq
    apply WPA.seq
    apply WPA.region
    · apply Trace.pu [] (.assign (.plain rfl))
      exact .nil _
    · exact keepOK_of hk hn rfl
    apply WPA.block
    refine WPA.loop (σ := Nat) (fun i => [(sl 1, .av (.loc 1 0)), (sl 3, .av (iv .i64 (Val.depths (l.take i)))), (sl 4, .av (iv .i64 i)), (bk 1, .blk (.data (Val.mk k n s l).cells))]) (fun i => i ≤ l.length) (fun i => l.length - i) 0
      (St.le_cons rfl (St.le_cons rfl (St.le_cons rfl (St.le_cons rfl (St.le_nil _))))) (Nat.zero_le _) fun i hi => ?_
    have hdt := Val.depths_take l i
    apply WPA.seq
    apply WPA.seq
    apply WPA.region
    · apply Trace.pu [] (.move (.plain rfl))
      apply Trace.pu [] (.fieldAddr fl53_3 (.plain rfl) rfl)
      first | apply Trace.pu [_] (.loadLoc1D ty51 (.plain rfl) rfl rfl) | apply Trace.pu [_] (.loadLoc1 ty51 (.plain rfl) rfl rfl) | apply Trace.pu [] (.loadRp1 ty51 (.plain rfl) rfl) | apply Trace.pu [_] (.loadCol1 ty51 (.plain rfl) rfl rfl rfl (fun _ => by omega))
      apply Trace.pu [] (.len rfl Tryd.underlying51 (.plain rfl) rfl)
      apply Trace.pu [] (.cmp (.plain rfl) (.plain rfl) rfl)
      exact .nil _
    · exact keepOK_of hk hn rfl
    refine WPA.cond rfl (fun hc2 => ?_) (fun hc2 => ?_)
    · have hlt : i < l.length := by simpa using hc2
      apply WPA.skip
      apply WPA.seq
      apply WPA.block
      apply WPA.region
      · apply Trace.pu [] (.move (.plain rfl))
        apply Trace.pu [] (.fieldAddr fl53_3 (.plain rfl) rfl)
        first | apply Trace.pu [_] (.loadLoc1D ty51 (.plain rfl) rfl rfl) | apply Trace.pu [_] (.loadLoc1 ty51 (.plain rfl) rfl rfl) | apply Trace.pu [] (.loadRp1 ty51 (.plain rfl) rfl) | apply Trace.pu [_] (.loadCol1 ty51 (.plain rfl) rfl rfl rfl (fun _ => by omega))
        apply Trace.pu [] (.move (.plain rfl))
        first | apply Trace.pu [] (.indexRows el51 (.plain rfl) (.plain rfl) (fun _ => ⟨by omega, by omega⟩)) | apply Trace.pu [] (.indexOwn el51 (.plain rfl) (.plain rfl) (fun _ => ⟨by omega, by omega⟩)) | apply Trace.pu [] (.indexSl el51 (.plain rfl) (.plain rfl) (fun _ => ⟨by omega, by omega⟩)) | apply Trace.pu [] (.indexSa el51 (.plain rfl) (.plain rfl) (fun _ => ⟨by omega, by omega⟩))
        apply Trace.pu [] ((Pure.loadRp ty53 (.plain rfl) (fun _ => by rw [Val.row_length l _ (by omega)]; exact Nat.le_refl 4)).to (y := (l[i]).av) (by show AV.d (.agg ((Val.row l ((i : Int)).toNat).take 4)) = _; rw [Val.row_take l _ (by omega)]; simp))
        apply Trace.cu (callArgs0 (.cons (.plain rfl) .nil)) (ih l[i] (List.getElem_mem hlt) (by have := Val.depth_mem l[i] (List.getElem_mem hlt); omega)) en68
        apply Trace.pu [] (.max2 (.plain rfl) (.plain rfl))
        apply Trace.pu [] (.assign (.plain rfl))
        exact .nil _
      · exact keepOK_of hk hn rfl
      apply WPA.region
      · apply Trace.pu [] (.move (.plain rfl))
        apply Trace.pu [] (.arith (.plain rfl) (.plain rfl) rfl (fun _ => bd64 (by omega)))
        apply Trace.pu [] (.assign (.plain rfl))
        exact .nil _
      · exact keepOK_of hk hn rfl
      have e1 : Val.depths (l.take (i + 1)) = max (Val.depths (l.take i)) l[i].depth := by rw [take_succ' l i hlt, Val.depths_append]; simp [Val.depths]
      exact ⟨i + 1, by omega, by omega, St.le_cons rfl (St.le_cons (iv_eq (by rw [e1]; omega)) (St.le_cons (iv_eq (by omega)) (St.le_cons rfl (St.le_nil _))))⟩
    · have hil : i = l.length := by
        have : ¬ ((i : Int) < l.length) := by simpa using hc2
        omega
      have e2 : Val.depths (l.take i) = Val.depths l := by rw [hil, List.take_length]
      apply WPA.exit
      apply WPA.seq
      apply WPA.region
      · apply Trace.pu [] (.move (.plain rfl))
        apply Trace.pu [] (.arith (.plain rfl) (.plain rfl) rfl (fun _ => bd64 (by omega)))
        apply Trace.pu [] (.assign (.plain rfl))
        exact .nil _
      · exact keepOK_of hk hn rfl
      apply WPA.ret
      refine ⟨.inr rfl, ⟨_, (.cons (.tmp rfl) .nil), ?_⟩, by simp [St.get]⟩
      rw [e2]; simp [Val.depth, hk3, resOf, D.ofV]; omega
/-- soundpost/soundpostref01.Check -/
theorem spec60 (v : Val) (hz : v.Sz) (hd : v.depth ≤ 4611686018427387904) : FnSpec Tryd.prog 60 [v.av] [] (.d (.v (.int .i64 (v.check)))) [] [] := by
  refine fnSpec_of (rs := [.tmp 2]) Tryd.func60 rfl rfl (Nat.le_of_ble_eq_true rfl) (by simp [St.get]) fun E hk hn => ?_
  apply WPA.seq
  apply WPA.region
  · first | apply Trace.boxD 1 [] (.plain rfl) rfl rfl | apply Trace.box 1 [] (.plain rfl) rfl rfl rfl
    apply Trace.pu [] (.assign (.plain rfl))
    exact .nil _
  · exact keepOK_of hk hn rfl
  apply WPA.seq
  apply WPA.seq
  apply WPA.region
  · first | apply Trace.pu [_] (.loadAllD ty53 (.plain rfl) rfl (by simp [Val.cells_length])) | apply Trace.pu [_] (.loadLocD ty53 (.plain rfl) rfl (fun _ => by simp [Val.cells_length])) | apply Trace.pu [_] (.loadLoc ty53 (.plain rfl) rfl (fun _ => Nat.le_of_ble_eq_true rfl)) | apply Trace.pu [] (.loadRp ty53 (.plain rfl) (fun _ => by decide)) | apply Trace.pu [] (.loadRp ty53 (.plain rfl) (fun _ => Nat.le_of_ble_eq_true rfl)) | apply Trace.pu [_] (.loadCol ty53 (.plain rfl) rfl rfl (fun _ => by decide) (fun _ => by omega)) | apply Trace.pu [_] (.loadArr ty53 (.plain rfl) rfl)
    apply Trace.cu (callArgs0 (.cons (.plain rfl) .nil)) (spec67 v hz) en67
    apply Trace.pu [] (.not (.plain rfl))
    exact .nil _
  · exact keepOK_of hk hn rfl
  refine WPA.cond rfl (fun hc1 => ?_) (fun hc1 => ?_)
  · apply WPA.seq
    apply WPA.region
    · apply Trace.pu [] (.assign (.plain rfl))
      exact .nil _
    · exact keepOK_of hk hn rfl
    apply WPA.ret
    refine ⟨.inr rfl, ⟨_, (.cons (.tmp rfl) .nil), ?_⟩, by simp [St.get]⟩
    have : v.formed = false := by simpa using hc1
    simp [Val.check, this, resOf, D.ofV]
  · have hf : v.formed = true := by simpa using hc1
    apply WPA.skip
    apply WPA.seq
    apply WPA.seq
    apply WPA.region
    · first | apply Trace.pu [_] (.loadAllD ty53 (.plain rfl) rfl (by simp [Val.cells_length])) | apply Trace.pu [_] (.loadLocD ty53 (.plain rfl) rfl (fun _ => by simp [Val.cells_length])) | apply Trace.pu [_] (.loadLoc ty53 (.plain rfl) rfl (fun _ => Nat.le_of_ble_eq_true rfl)) | apply Trace.pu [] (.loadRp ty53 (.plain rfl) (fun _ => by decide)) | apply Trace.pu [] (.loadRp ty53 (.plain rfl) (fun _ => Nat.le_of_ble_eq_true rfl)) | apply Trace.pu [_] (.loadCol ty53 (.plain rfl) rfl rfl (fun _ => by decide) (fun _ => by omega)) | apply Trace.pu [_] (.loadArr ty53 (.plain rfl) rfl)
      apply Trace.cu (callArgs0 (.cons (.plain rfl) .nil)) (spec68 v hz hd) en68
      apply Trace.pu [] (.cmp (.plain rfl) (.plain rfl) rfl)
      exact .nil _
    · exact keepOK_of hk hn rfl
    refine WPA.cond rfl (fun hc2 => ?_) (fun hc2 => ?_)
    · apply WPA.seq
      apply WPA.region
      · apply Trace.pu [] (.assign (.plain rfl))
        exact .nil _
      · exact keepOK_of hk hn rfl
      apply WPA.ret
      refine ⟨.inr rfl, ⟨_, (.cons (.tmp rfl) .nil), ?_⟩, by simp [St.get]⟩
      have h2 : 16 < v.depth := by simp at hc2; omega
      simp [Val.check, hf, h2, resOf, D.ofV]
    · apply WPA.skip
      apply WPA.seq
      apply WPA.region
      · apply Trace.pu [] (.assign (.plain rfl))
        exact .nil _
      · exact keepOK_of hk hn rfl
      apply WPA.ret
      refine ⟨.inr rfl, ⟨_, (.cons (.tmp rfl) .nil), ?_⟩, by simp [St.get]⟩
      have h2 : ¬ 16 < v.depth := by simp at hc2; omega
      simp [Val.check, hf, h2, resOf, D.ofV]

end Go.Proofs.YtmdfamnnnoieaaaDoor


/- The specification of codec: Encode and Size. -/
namespace Go.Proofs.YtmdfamnnnoieaaaDoor
open Go
set_option linter.unusedVariables false
set_option linter.unusedSimpArgs false
set_option maxRecDepth 10000

/-- soundpost/soundpostref01.encode -/
theorem spec61 (v : Val) (hz : v.Sz) (hf : v.formed = true) (hl : v.enc.length + 40 ≤ 140737488355328) : FnSpec Tryd.prog 61 [v.av] [] (.own 0 v.enc.length) [(bk 0, .blk (.app 1 v.enc.length [.ints .u8 v.enc]))] [] := by
  revert hf hl
  induction hz
  rename_i k n s l h1 h2 h3 h4 hm ih
  intro hf hl
  refine fnSpec_of (rs := [.tmp 2]) Tryd.func61 rfl rfl (Nat.le_of_ble_eq_true rfl) (by simp [St.get]) fun E hk hn => ?_
  apply WPA.seq
  apply WPA.region
  · apply Trace.boxD 44 [] (.plain rfl) rfl rfl
    apply Trace.pu [] (.assign (.plain rfl))
    exact .nil _
  · exact keepOK_of hk hn rfl
  apply WPA.seq
  apply WPA.seq
  apply WPA.region
  · apply Trace.pu [] (.fieldAddr fl53_0 (.plain rfl) rfl)
    first | apply Trace.pu [_] (.loadLoc1D ty3 (.plain rfl) rfl rfl) | apply Trace.pu [_] (.loadLoc1 ty3 (.plain rfl) rfl rfl) | apply Trace.pu [] (.loadRp1 ty3 (.plain rfl) rfl) | apply Trace.pu [_] (.loadCol1 ty3 (.plain rfl) rfl rfl rfl (fun _ => by omega))
    exact .nil _
  · exact keepOK_of hk hn rfl
  apply WPA.block
  apply WPA.seq
  apply WPA.region
  · apply Trace.pu [] (.cmp (.plain rfl) (.plain rfl) rfl)
    apply Trace.pu [] (.assign (.plain rfl))
    exact .nil _
  · exact keepOK_of hk hn rfl
  refine WPA.cond rfl (fun hc1 => ?_) (fun hc1 => ?_)
  · have hk1 : k = 1 := by simpa using hc1
    subst hk1
    have hz1 := zig_lt h2
    have hd1 := dig_length10 hz1
    apply WPA.seq
    apply WPA.region
    · apply Trace.buildSlice 9 [] so54 zo5 rfl (by decide) (by decide) (.cons (.plain rfl) rfl rfl (Nat.le_of_ble_eq_true rfl) (.nil _ _)) rfl rfl rfl
      apply Trace.pu [] (.fieldAddr fl53_1 (.plain rfl) rfl)
      first | apply Trace.pu [_] (.loadLoc1D ty3 (.plain rfl) rfl rfl) | apply Trace.pu [_] (.loadLoc1 ty3 (.plain rfl) rfl rfl) | apply Trace.pu [] (.loadRp1 ty3 (.plain rfl) rfl) | apply Trace.pu [_] (.loadCol1 ty3 (.plain rfl) rfl rfl rfl (fun _ => by omega))
      apply Trace.cu (callArgs0 (.cons (.plain rfl) .nil)) (spec70 n h2) en70
      apply Trace.cb [13] [] (callArgs0 (.cons (.plain rfl) .nil)) ((spec69 (zig n) hz1).as 1 13 rfl rfl rfl rfl rfl rfl rfl) en69 .nil rfl rfl
      apply Trace.append 0 [bk 9] ap54 kd54 (by decide) (.own (.plain rfl) rfl) (.own (.plain rfl) rfl) (Col.ones rfl) (labs_ok rfl) (by first | omega | (simp; omega)) (by first | omega | (simp; omega)) rfl rfl
      apply Trace.pu [] (.assign (.plain rfl))
      exact .nil _
    · exact keepOK_of hk hn rfl
    apply WPA.ret
    refine ⟨.inr rfl, ⟨_, (.cons (.tmp rfl) .nil), ?_⟩, by first | exact blks_of (.cons (app_eq (by rw [Val.enc_int]; rfl) (by rw [Val.enc_int]; simp; omega)) .nil) | exact blks_of (.cons (app_eq (by rw [Val.enc_text]; simp [bytesI]) (by rw [Val.enc_text]; simp [bytesI_length]; omega)) .nil) | exact blks_of (.cons (app_eq (by rw [Val.enc_list]) (by rw [Val.enc_list])) .nil)⟩
    exact own_eq (by rw [Val.enc_int]; simp; omega)
  · have hk1 : ¬ k = 1 := by simpa using hc1
    apply WPA.seq
    apply WPA.region
    · apply Trace.pu [] (.cmp (.plain rfl) (.plain rfl) rfl)
      apply Trace.pu [] (.assign (.plain rfl))
      exact .nil _
    · exact keepOK_of hk hn rfl
    refine WPA.cond rfl (fun hc2 => ?_) (fun hc2 => ?_)
    · have hk2 : k = 2 := by simpa using hc2
      subst hk2
      have hd1 := dig_length10 (u := s.size) (by omega)
      have hle : (Val.mk 2 n s l).enc.length = 1 + (dig s.size).length + s.size := by rw [Val.enc_text]; simp [bytesI_length]; omega
      apply WPA.seq
      apply WPA.draw mixed
      · apply Trace.buildSlice 17 [] so54 zo5 rfl (by decide) (by decide) (.cons (.plain rfl) rfl rfl (Nat.le_of_ble_eq_true rfl) (.nil _ _)) rfl rfl rfl
        apply Trace.pu [] (.fieldAddr fl53_2 (.plain rfl) rfl)
        first | apply Trace.pu [_] (.loadLoc1D ty9 (.plain rfl) rfl rfl) | apply Trace.pu [_] (.loadLoc1 ty9 (.plain rfl) rfl rfl) | apply Trace.pu [] (.loadRp1 ty9 (.plain rfl) rfl) | apply Trace.pu [_] (.loadCol1 ty9 (.plain rfl) rfl rfl rfl (fun _ => by omega))
        apply Trace.pu [] (.lenS rfl Tryd.underlying9 (.plain rfl))
        apply Trace.pu [] ((Pure.conv Tryd.underlying3 Tryd.underlying91 (.plain rfl)).to (y := iv .u64 ((s.size : Nat) : Int)) (by rw [wrap_u64_id (by omega)]))
        apply Trace.cb [22] [] (callArgs0 (.cons (.plain rfl) .nil)) ((spec69 s.size (by omega)).as 1 22 rfl rfl rfl rfl rfl rfl rfl) en69 .nil rfl rfl
        apply Trace.append 23 [bk 17] ap54 kd54 (by decide) (.own (.plain rfl) rfl) (.own (.plain rfl) rfl) (Col.ones rfl) (labs_ok rfl) (by first | omega | (simp; omega)) (by first | omega | (simp; omega)) rfl rfl
        apply Trace.pu [] (.fieldAddr fl53_2 (.plain rfl) rfl)
        first | apply Trace.pu [_] (.loadLoc1D ty9 (.plain rfl) rfl rfl) | apply Trace.pu [_] (.loadLoc1 ty9 (.plain rfl) rfl rfl) | apply Trace.pu [] (.loadRp1 ty9 (.plain rfl) rfl) | apply Trace.pu [_] (.loadCol1 ty9 (.plain rfl) rfl rfl rfl (fun _ => by omega))
        apply Trace.append 0 [bk 23] ap54 kd9 (by decide) (.own (.plain rfl) rfl) (.str (.plain rfl)) (Col.ones rfl) (labs_ok rfl) (by first | omega | (simp; omega)) (by first | omega | (simp; omega)) rfl rfl
        apply Trace.pu [] (.assign (.plain rfl))
        exact .nil _
      · rfl
      · exact keepOK_of hk hn rfl
      apply WPA.ret
      refine ⟨.inr rfl, ⟨_, (.cons (.tmp rfl) .nil), ?_⟩, by first | exact blks_of (.cons (app_eq (by rw [Val.enc_int]; rfl) (by rw [Val.enc_int]; simp; omega)) .nil) | exact blks_of (.cons (app_eq (by rw [Val.enc_text]; simp [bytesI]) (by rw [Val.enc_text]; simp [bytesI_length]; omega)) .nil) | exact blks_of (.cons (app_eq (by rw [Val.enc_list]) (by rw [Val.enc_list])) .nil)⟩
      exact own_eq (by rw [Val.enc_text]; simp [bytesI_length]; omega)
    · have hk2 : ¬ k = 2 := by simpa using hc2
      have hk3 : k = 3 := by rcases Val.kind_of hf with h | h | h <;> omega
      subst hk3
      have hd1 := dig_length10 (u := l.length) (by omega)
      obtain ⟨_, _, hfl⟩ := Val.formed_list hf
      apply WPA.skip
      apply WPA.seq
      apply WPA.region
      · apply Trace.buildSlice 27 [] so54 zo5 rfl (by decide) (by decide) (.cons (.plain rfl) rfl rfl (Nat.le_of_ble_eq_true rfl) (.nil _ _)) rfl rfl rfl
        apply Trace.pu [] (.fieldAddr fl53_3 (.plain rfl) rfl)
        first | apply Trace.pu [_] (.loadLoc1D ty51 (.plain rfl) rfl rfl) | apply Trace.pu [_] (.loadLoc1 ty51 (.plain rfl) rfl rfl) | apply Trace.pu [] (.loadRp1 ty51 (.plain rfl) rfl) | apply Trace.pu [_] (.loadCol1 ty51 (.plain rfl) rfl rfl rfl (fun _ => by omega))
        apply Trace.pu [] (.len rfl Tryd.underlying51 (.plain rfl) rfl)
        apply Trace.pu [] ((Pure.conv Tryd.underlying3 Tryd.underlying91 (.plain rfl)).to (y := iv .u64 ((l.length : Nat) : Int)) (by rw [wrap_u64_id (by omega)]))
        apply Trace.cb [32] [] (callArgs0 (.cons (.plain rfl) .nil)) ((spec69 l.length (by omega)).as 1 32 rfl rfl rfl rfl rfl rfl rfl) en69 .nil rfl rfl
        apply Trace.append 0 [bk 27] ap54 kd54 (by decide) (.own (.plain rfl) rfl) (.own (.plain rfl) rfl) (Col.ones rfl) (labs_ok rfl) (by first | omega | (simp; omega)) (by first | omega | (simp; omega)) rfl rfl
        apply Trace.pu [] (.assign (.plain rfl))
        exact .nil _
      · exact keepOK_of hk hn rfl
      apply WPA.seq
      apply WPA.seq
      apply WPA.region
      · apply Trace.pu [] (.assign (.plain rfl))
        exact .nil _
      · exact keepOK_of hk hn rfl
      apply WPA.block
      refine WPA.loop (σ := Nat) (fun i => [(sl 1, .av (.loc 44 0)), (sl 3, .av (.own 0 (3 :: (dig l.length ++ Val.encs (l.take i))).length)), (sl 4, .av (iv .i64 i)), (bk 44, .blk (.data (Val.mk 3 n s l).cells)), (bk 0, .blk (.app 1 (3 :: (dig l.length ++ Val.encs (l.take i))).length [.ints .u8 (3 :: (dig l.length ++ Val.encs (l.take i)))]))]) (fun i => i ≤ l.length) (fun i => l.length - i) 0
        (St.le_cons rfl (St.le_cons (by simp [Val.encs, Nat.add_comm]; rfl) (St.le_cons rfl (St.le_cons rfl (St.le_cons (by simp [Val.encs, Nat.add_comm]; rfl) (St.le_nil _)))))) (Nat.zero_le _) fun i hi => ?_
      apply WPA.seq
      apply WPA.seq
      apply WPA.region
      · apply Trace.pu [] (.move (.plain rfl))
        apply Trace.pu [] (.fieldAddr fl53_3 (.plain rfl) rfl)
        first | apply Trace.pu [_] (.loadLoc1D ty51 (.plain rfl) rfl rfl) | apply Trace.pu [_] (.loadLoc1 ty51 (.plain rfl) rfl rfl) | apply Trace.pu [] (.loadRp1 ty51 (.plain rfl) rfl) | apply Trace.pu [_] (.loadCol1 ty51 (.plain rfl) rfl rfl rfl (fun _ => by omega))
        apply Trace.pu [] (.len rfl Tryd.underlying51 (.plain rfl) rfl)
        apply Trace.pu [] (.cmp (.plain rfl) (.plain rfl) rfl)
        exact .nil _
      · exact keepOK_of hk hn rfl
      refine WPA.cond rfl (fun hc3 => ?_) (fun hc3 => ?_)
      · have hlt : i < l.length := by simpa using hc3
        obtain ⟨y, hy⟩ : ∃ y, l[i] = y := ⟨_, rfl⟩
        have hym : y ∈ l := hy ▸ List.getElem_mem hlt
        have hel := Val.encs_split l (i + 1)
        have het := Val.encs_take l i hlt
        rw [hy] at het
        have hlen : (Val.encs l).length = (Val.encs (l.take i)).length + y.enc.length + (Val.encs (l.drop (i + 1))).length := by rw [hel, het]; simp; omega
        have hle : (Val.mk 3 n s l).enc.length = 1 + (dig l.length).length + (Val.encs l).length := by rw [Val.enc_list]; simp; omega
        obtain ⟨zs, hzs⟩ : ∃ zs, 3 :: (dig l.length ++ Val.encs (l.take i)) = zs := ⟨_, rfl⟩
        have hzl : zs.length = 1 + ((dig l.length).length + (Val.encs (l.take i)).length) := by rw [← hzs]; simp; omega
        have hnx : 3 :: (dig l.length ++ Val.encs (l.take (i + 1))) = zs ++ y.enc := by rw [← hzs, het]; simp
        rw [hzs]
        apply WPA.skip
        apply WPA.seq
        apply WPA.block
        apply WPA.region
        · apply Trace.pu [] (.move (.plain rfl))
          apply Trace.pu [] (.fieldAddr fl53_3 (.plain rfl) rfl)
          first | apply Trace.pu [_] (.loadLoc1D ty51 (.plain rfl) rfl rfl) | apply Trace.pu [_] (.loadLoc1 ty51 (.plain rfl) rfl rfl) | apply Trace.pu [] (.loadRp1 ty51 (.plain rfl) rfl) | apply Trace.pu [_] (.loadCol1 ty51 (.plain rfl) rfl rfl rfl (fun _ => by omega))
          apply Trace.pu [] (.move (.plain rfl))
          first | apply Trace.pu [] (.indexRows el51 (.plain rfl) (.plain rfl) (fun _ => ⟨by omega, by omega⟩)) | apply Trace.pu [] (.indexOwn el51 (.plain rfl) (.plain rfl) (fun _ => ⟨by omega, by omega⟩)) | apply Trace.pu [] (.indexSl el51 (.plain rfl) (.plain rfl) (fun _ => ⟨by omega, by omega⟩)) | apply Trace.pu [] (.indexSa el51 (.plain rfl) (.plain rfl) (fun _ => ⟨by omega, by omega⟩))
          apply Trace.pu [] ((Pure.loadRp ty53 (.plain rfl) (fun _ => by rw [Val.row_length l _ (by omega)]; exact Nat.le_refl 4)).to (y := y.av) (by show AV.d (.agg ((Val.row l ((i : Int)).toNat).take 4)) = _; rw [Val.row_take l _ (by omega)]; simp [hy]))
          apply Trace.cb [47] [] (callArgs0 (.cons (.plain rfl) .nil)) ((ih y hym (Val.formeds_mem hfl y hym) (by omega)).as 0 47 rfl rfl rfl rfl rfl rfl rfl) en61 .nil rfl rfl
          apply Trace.append 0 [sl 3, sl 41, sl 2] ap54 kd54 (by decide) (.own (.plain rfl) rfl) (.own (.plain rfl) rfl) (Col.ones rfl) (labs_ok rfl) (by first | omega | (simp; omega)) (by first | omega | (simp; omega)) rfl rfl
          apply Trace.pu [] (.assign (.plain rfl))
          exact .nil _
        · exact keepOK_of hk hn rfl
        apply WPA.region
        · apply Trace.pu [] (.move (.plain rfl))
          apply Trace.pu [] (.arith (.plain rfl) (.plain rfl) rfl (fun _ => bd64 (by omega)))
          apply Trace.pu [] (.assign (.plain rfl))
          exact .nil _
        · exact keepOK_of hk hn rfl
        exact ⟨i + 1, by omega, by omega, St.le_cons rfl (St.le_cons (by rw [hnx]; simp; rfl) (St.le_cons (iv_eq (by omega)) (St.le_cons rfl (St.le_cons (by rw [hnx]; simp; rfl) (St.le_nil _)))))⟩
      · have hil : i = l.length := by
          have : ¬ ((i : Int) < l.length) := by simpa using hc3
          omega
        subst hil
        rw [List.take_length]
        apply WPA.exit
        apply WPA.seq
        apply WPA.region
        · apply Trace.pu [] (.move (.plain rfl))
          apply Trace.pu [] (.assign (.plain rfl))
          exact .nil _
        · exact keepOK_of hk hn rfl
        apply WPA.ret
        refine ⟨.inr rfl, ⟨_, (.cons (.tmp rfl) .nil), ?_⟩, by first | exact blks_of (.cons (app_eq (by rw [Val.enc_int]; rfl) (by rw [Val.enc_int]; simp; omega)) .nil) | exact blks_of (.cons (app_eq (by rw [Val.enc_text]; simp [bytesI]) (by rw [Val.enc_text]; simp [bytesI_length]; omega)) .nil) | exact blks_of (.cons (app_eq (by rw [Val.enc_list]) (by rw [Val.enc_list])) .nil)⟩
        exact own_eq (by rw [Val.enc_list])
/-- soundpost/soundpostref01.Encode -/
theorem spec45 (v : Val) (hz : v.Sz) (hd : v.depth ≤ 4611686018427387904) (hl : v.encoded.length + 40 ≤ 140737488355328) : FnSpec Tryd.prog 45 [v.av] [] (.tup ([bytesD v.encoded, .v (.int .i64 v.check)].map .d)) [] [] := by
  refine fnSpec_of (rs := [.tmp 2, .tmp 3]) Tryd.func45 rfl rfl (Nat.le_of_ble_eq_true rfl) (by simp [St.get]) fun E hk hn => ?_
  apply WPA.seq
  apply WPA.region
  · first | apply Trace.boxD 1 [] (.plain rfl) rfl rfl | apply Trace.box 1 [] (.plain rfl) rfl rfl rfl
    apply Trace.pu [] (.assign (.plain rfl))
    apply Trace.pu [] (.assign (.plain rfl))
    exact .nil _
  · exact keepOK_of hk hn rfl
  apply WPA.seq
  apply WPA.region
  · first | apply Trace.pu [_] (.loadAllD ty53 (.plain rfl) rfl (by simp [Val.cells_length])) | apply Trace.pu [_] (.loadLocD ty53 (.plain rfl) rfl (fun _ => by simp [Val.cells_length])) | apply Trace.pu [_] (.loadLoc ty53 (.plain rfl) rfl (fun _ => Nat.le_of_ble_eq_true rfl)) | apply Trace.pu [] (.loadRp ty53 (.plain rfl) (fun _ => by decide)) | apply Trace.pu [] (.loadRp ty53 (.plain rfl) (fun _ => Nat.le_of_ble_eq_true rfl)) | apply Trace.pu [_] (.loadCol ty53 (.plain rfl) rfl rfl (fun _ => by decide) (fun _ => by omega)) | apply Trace.pu [_] (.loadArr ty53 (.plain rfl) rfl)
    apply Trace.cu (callArgs0 (.cons (.plain rfl) .nil)) (spec60 v hz hd) en60
    apply Trace.pu [] (.assign (.plain rfl))
    exact .nil _
  · exact keepOK_of hk hn rfl
  apply WPA.seq
  apply WPA.seq
  apply WPA.region
  · apply Trace.pu [] (.move (.plain rfl))
    apply Trace.pu [] (.cmp (.plain rfl) (.plain rfl) rfl)
    exact .nil _
  · exact keepOK_of hk hn rfl
  refine WPA.cond rfl (fun hc1 => ?_) (fun hc1 => ?_)
  · have hne : v.check ≠ 0 := by simpa using hc1
    apply WPA.seq
    apply WPA.region
    · apply Trace.pu [] (.move (.plain rfl))
      apply Trace.pu [] (.assign (.plain rfl))
      apply Trace.pu [] (.assign (.plain rfl))
      exact .nil _
    · exact keepOK_of hk hn rfl
    refine WPA.ghost (Ghost.slot (t := 2) rfl (den_nilRows (n := 1) (g := fun i => [Col.at (.ints .u8 []) i]))) ?_
    apply WPA.ret
    refine ⟨.inr rfl, ⟨_, (.cons (.tmp rfl) (.cons (.tmp rfl) .nil)), ?_⟩, by simp [St.get]⟩
    have : v.encoded = [] := by simp [Val.encoded, hne]
    simp [resOf, this, bytesD, rowsD]
  · have he : v.check = 0 := by simpa using hc1
    have hf := Val.check_ok he
    have hen : v.encoded = v.enc := by simp [Val.encoded, he]
    rw [hen] at hl ⊢
    apply WPA.skip
    apply WPA.seq
    apply WPA.region
    · first | apply Trace.pu [_] (.loadAllD ty53 (.plain rfl) rfl (by simp [Val.cells_length])) | apply Trace.pu [_] (.loadLocD ty53 (.plain rfl) rfl (fun _ => by simp [Val.cells_length])) | apply Trace.pu [_] (.loadLoc ty53 (.plain rfl) rfl (fun _ => Nat.le_of_ble_eq_true rfl)) | apply Trace.pu [] (.loadRp ty53 (.plain rfl) (fun _ => by decide)) | apply Trace.pu [] (.loadRp ty53 (.plain rfl) (fun _ => Nat.le_of_ble_eq_true rfl)) | apply Trace.pu [_] (.loadCol ty53 (.plain rfl) rfl rfl (fun _ => by decide) (fun _ => by omega)) | apply Trace.pu [_] (.loadArr ty53 (.plain rfl) rfl)
      apply Trace.cb [0] [] (callArgs0 (.cons (.plain rfl) .nil)) (spec61 v hz hf hl) en61 .nil rfl rfl
      apply Trace.pu [] (.assign (.plain rfl))
      apply Trace.pu [] (.assign (.plain rfl))
      exact .nil _
    · exact keepOK_of hk hn rfl
    refine WPA.ghost (Ghost.freeze' (t := 2) rfl rfl) ?_
    apply WPA.ret
    refine ⟨.inr rfl, ⟨_, (.cons (.tmp rfl) (.cons (.tmp rfl) .nil)), ?_⟩, by simp [St.get]⟩
    rw [he]; rfl

end Go.Proofs.YtmdfamnnnoieaaaDoor


/- soundpostref25: Data, Digest, Less, Find, insert, Check. -/
namespace Go.Proofs.YtmdfamnnnoieaaaDoor
open Go
set_option linter.unusedVariables false
set_option linter.unusedSimpArgs false
set_option maxRecDepth 10000
set_option maxHeartbeats 2000000

theorem smp_mem {xs : List Int} {i : Nat} (hi : i < xs.length) (h : nmOk xs = true) : smp (xs.getD i 0) = true := by
  simp only [nmOk, Bool.and_eq_true, List.all_eq_true] at h
  rw [List.getD_eq_getElem?_getD, List.getElem?_eq_getElem hi]
  exact h.2 _ (List.getElem_mem hi)
/-- The order of bytes, place by place. -/
theorem ltL_at : ∀ {a b : List Int} (i : Nat), a.length = b.length → i < a.length → (∀ j, j < i → a.getD j 0 = b.getD j 0) → ¬ a.getD i 0 = b.getD i 0 → ltL a b = decide (a.getD i 0 < b.getD i 0)
  | [], _, i, _, hi, _, _ => by simp at hi
  | _ :: _, [], _, hl, _, _, _ => by simp at hl
  | x :: a, y :: b, 0, hl, hi, _, hne => by
    simp at hne ⊢
    rw [ltL_ne hne]
  | x :: a, y :: b, i + 1, hl, hi, he, hne => by
    have h0 := he 0 (by omega)
    simp at h0
    subst h0
    rw [ltL_eq, ltL_at i (by simpa using hl) (by simpa using hi) (fun j hj => by simpa using he (j + 1) (by omega)) (by simpa using hne)]
    simp
theorem by_at {a : List Int} {k j : Nat} (e : k = j) : AV.d (Col.at (.ints .u8 a) k) = iv .u8 (a.getD j 0) := by subst e; rfl
def fdR (ts : List Tk) (k : List Int) : Int := match ts.findIdx? fun t => decide (t.d = k) with
  | some i => (i : Int)
  | none => -1
theorem fdR_at {ts : List Tk} {k : List Int} {i : Nat} (hi : i < ts.length) (he : (ts.getD i default).d = k) (hn : ∀ j, j < i → ¬ (ts.getD j default).d = k) : fdR ts k = (i : Int) := by
  have : (ts.findIdx? fun t => decide (t.d = k)) = some i := by
    rw [List.findIdx?_eq_some_iff_getElem]
    refine ⟨hi, ?_, fun j hj => ?_⟩
    · rw [List.getD_eq_getElem?_getD, List.getElem?_eq_getElem hi] at he
      simpa using he
    · have := hn j hj
      rw [List.getD_eq_getElem?_getD, List.getElem?_eq_getElem (by omega)] at this
      simpa using this
  unfold fdR
  rw [this]
theorem fdR_no {ts : List Tk} {k : List Int} (hn : ∀ j, j < ts.length → ¬ (ts.getD j default).d = k) : fdR ts k = -1 := by
  have : (ts.findIdx? fun t => decide (t.d = k)) = none := by
    rw [List.findIdx?_eq_none_iff]
    intro t ht
    obtain ⟨j, hj, rfl⟩ := List.getElem_of_mem ht
    have := hn j hj
    rw [List.getD_eq_getElem?_getD, List.getElem?_eq_getElem hj] at this
    simpa using this
  unfold fdR
  rw [this]
/-- The first place whose digest isn't less. -/
theorem at_stop {ts : List Tk} {k : List Int} {i : Nat} (hi : i ≤ ts.length) (h1 : ∀ j, j < i → ltL (ts.getD j default).d k = true) (h2 : i < ts.length → ltL (ts.getD i default).d k = false) : atOf ts k = i := by
  have hle := atOf_le ts k
  rcases Nat.lt_trichotomy (atOf ts k) i with h | h | h
  · have := tw_at (fun t : Tk => ltL t.d k) default ts (show (ts.takeWhile fun t => ltL t.d k).length < ts.length by unfold atOf at h; omega)
    have h3 := h1 _ h
    unfold atOf at h3
    rw [h3] at this
    cases this
  · exact h
  · have := tw_lt (fun t : Tk => ltL t.d k) default ts i (by unfold atOf at h; exact h)
    have h3 := h2 (by omega)
    rw [this] at h3
    cases h3
theorem listV_take {xs : List Int} {i : Nat} (h : i < xs.length) : (xs.take (i + 1)).map numV = (xs.take i).map numV ++ [.mk 1 (xs.getD i 0) ⟨#[]⟩ []] := by
  rw [take_succ' _ _ h, List.map_append, List.getD_eq_getElem?_getD, List.getElem?_eq_getElem h]
  rfl
theorem vapp_st {vs ws : List Val} {n : Nat} (h : vs = ws) (hn : n = ws.length) : some (Cont.blk (.app 4 n (valCols vs))) = some (Cont.blk (.app 4 ws.length (valCols ws))) := by rw [h, hn]
theorem vcell_st {m n : Nat} (h : m = n) : some (Cont.blk (.cells [iv .i64 3, iv .i64 0, sv ⟨#[]⟩, .own 5 m])) = some (Cont.blk (.cells [iv .i64 3, iv .i64 0, sv ⟨#[]⟩, .own 5 n])) := by rw [h]
theorem intsOf_map (k : IntKind) : ∀ l : List Int, intsOf? k (l.map fun x => D.v (.int k x)) = some l
  | [] => rfl
  | x :: r => by simp only [List.map_cons, intsOf?, if_true, intsOf_map k r]
theorem colOf_by {a : List Int} (h : 0 < a.length) : colOf (a.map fun x => D.v (.int .u8 x)) = .ints .u8 a := by
  cases a with
  | nil => simp at h
  | cons x r =>
    have := intsOf_map .u8 (x :: r)
    simp only [List.map_cons] at this
    show (match intsOf? .u8 (D.v (.int .u8 x) :: r.map fun x => D.v (.int .u8 x)) with | some xs => Col.ints .u8 xs | none => .ds _) = _
    rw [this]
/-- soundpost/soundpostref25.Data -/
theorem spec31 (xs : List Int) (hx : xs.length ≤ 1000) : FnSpec Tryd.prog 31 [.d (intsD xs)] [] (bv (nmOk xs)) [] [] := by
  refine fnSpec_of (rs := [.tmp 2]) Tryd.func31 rfl rfl (Nat.le_of_ble_eq_true rfl) (by simp [St.get]) fun E hk hn => ?_
  apply WPA.seq
  apply WPA.region
  · apply Trace.pu [] (.assign (.plain rfl))
    exact .nil _
  · exact keepOK_of hk hn rfl
  apply WPA.seq
  apply WPA.seq
  apply WPA.region
  · apply Trace.pu [] (.move (.plain rfl))
    apply Trace.pu [] (.len rfl Tryd.underlying25 (.plain rfl) rfl)
    apply Trace.pu [] (.cmp (.plain rfl) (.plain rfl) rfl)
    apply Trace.pu [] (.move (.plain rfl))
    apply Trace.pg [] rfl (.move (.plain rfl))
    apply Trace.pg [] rfl (.len rfl Tryd.underlying25 (.gd rfl (fun h => h)) rfl)
    apply Trace.pg [] rfl (.cmp (.gd rfl (fun h => h)) (.plain rfl) rfl)
    apply Trace.pu [] (.pick (.plain rfl) (.plain rfl) (.gd rfl (by simp)))
    exact .nil _
  · exact keepOK_of hk hn rfl
  refine WPA.cond rfl (fun hc1 => ?_) (fun hc1 => ?_)
  · have hE : nmOk xs = false := by
      cases xs with
      | nil => rfl
      | cons x r => simp at hc1 hx; omega
    apply WPA.seq
    apply WPA.region
    · apply Trace.pu [] (.assign (.plain rfl))
      exact .nil _
    · exact keepOK_of hk hn rfl
    apply WPA.ret
    refine ⟨.inr rfl, ⟨_, (.cons (.tmp rfl) .nil), ?_⟩, by simp [St.get]⟩
    rw [hE]; rfl
  · have hne : 0 < xs.length := by
      cases xs with
      | nil => simp at hc1
      | cons x r => simp
    apply WPA.skip
    apply WPA.seq
    apply WPA.seq
    apply WPA.region
    · apply Trace.pu [] (.assign (.plain rfl))
      exact .nil _
    · exact keepOK_of hk hn rfl
    apply WPA.block
    refine WPA.loop (σ := Nat) (fun i => [(sl 0, .av (.d (intsD xs))), (sl 3, .av (iv .i64 (i)))]) (fun i => i ≤ xs.length ∧ ∀ j, j < i → smp (xs.getD j 0) = true) (fun i => xs.length - i) 0
      (St.le_cons rfl (St.le_cons rfl (St.le_nil _))) ⟨Nat.zero_le _, fun j hj => absurd hj (by omega)⟩ fun i hi => ?_
    apply WPA.seq
    apply WPA.seq
    apply WPA.region
    · apply Trace.pu [] (.move (.plain rfl))
      apply Trace.pu [] (.move (.plain rfl))
      apply Trace.pu [] (.len rfl Tryd.underlying25 (.plain rfl) rfl)
      apply Trace.pu [] (.cmp (.plain rfl) (.plain rfl) rfl)
      exact .nil _
    · exact keepOK_of hk hn rfl
    refine WPA.cond rfl (fun hc2 => ?_) (fun hc2 => ?_)
    · have hlt : i < xs.length := by simp at hc2; omega
      obtain ⟨x, hxe⟩ : ∃ x, xs.getD i 0 = x := ⟨_, rfl⟩
      apply WPA.skip
      apply WPA.seq
      apply WPA.block
      apply WPA.seq
      apply WPA.region
      · apply Trace.pu [] (.move (.plain rfl))
        apply Trace.pu [] (.move (.plain rfl))
        first | apply Trace.pu [] (.indexRows el25 (.plain rfl) (.plain rfl) (fun _ => ⟨by omega, by omega⟩)) | apply Trace.pu [] (.indexOwn el25 (.plain rfl) (.plain rfl) (fun _ => ⟨by omega, by omega⟩)) | apply Trace.pu [] (.indexSl el25 (.plain rfl) (.plain rfl) (fun _ => ⟨by omega, by omega⟩)) | apply Trace.pu [] (.indexSa el25 (.plain rfl) (.plain rfl) (fun _ => ⟨by omega, by omega⟩))
        apply Trace.pu [] (.loadRp1 ty3 (.plain rfl) (r := .v (.int .i64 x)) (by show [D.v (.int .i64 (xs.getD ((i : Int)).toNat 0))][0]? = _; rw [Int.toNat_natCast, hxe]; rfl))
        apply Trace.pu [] (.cmp (.plain rfl) (.plain rfl) rfl)
        apply Trace.pu [] (.move (.plain rfl))
        apply Trace.pg [] rfl (.move (.plain rfl))
        apply Trace.pg [] rfl (.move (.plain rfl))
        first | apply Trace.pg [] rfl (.indexRows el25 (.gd rfl (fun h => h)) (.gd rfl (fun h => h)) (fun _ => ⟨by omega, by omega⟩)) | apply Trace.pg [] rfl (.indexOwn el25 (.gd rfl (fun h => h)) (.gd rfl (fun h => h)) (fun _ => ⟨by omega, by omega⟩)) | apply Trace.pg [] rfl (.indexSl el25 (.gd rfl (fun h => h)) (.gd rfl (fun h => h)) (fun _ => ⟨by omega, by omega⟩)) | apply Trace.pg [] rfl (.indexSa el25 (.gd rfl (fun h => h)) (.gd rfl (fun h => h)) (fun _ => ⟨by omega, by omega⟩))
        apply Trace.pg [] rfl (.loadRp1 ty3 (.gd rfl (fun h => h)) (r := .v (.int .i64 x)) (by show [D.v (.int .i64 (xs.getD ((i : Int)).toNat 0))][0]? = _; rw [Int.toNat_natCast, hxe]; rfl))
        apply Trace.pg [] rfl (.cmp (.gd rfl (fun h => h)) (.plain rfl) rfl)
        apply Trace.pu [] (.pick (.plain rfl) (.plain rfl) (.gd rfl (by simp)))
        exact .nil _
      · exact keepOK_of hk hn rfl
      refine WPA.cond rfl (fun hc3 => ?_) (fun hc3 => ?_)
      · have hE : nmOk xs = false := by
          cases h : nmOk xs with
          | false => rfl
          | true =>
            have := smp_mem hlt h
            rw [hxe] at this
            simp [smp] at this
            simp at hc3
            omega
        apply WPA.seq
        apply WPA.region
        · apply Trace.pu [] (.assign (.plain rfl))
          exact .nil _
        · exact keepOK_of hk hn rfl
        apply WPA.ret
        refine ⟨.inr rfl, ⟨_, (.cons (.tmp rfl) .nil), ?_⟩, by simp [St.get]⟩
        rw [hE]; rfl
      · have hsx : smp x = true := by
          unfold smp
          simp at hc3 ⊢
          omega
        apply WPA.skip
        apply WPA.region
        · apply Trace.pu [] (.move (.plain rfl))
          apply Trace.pu [] (.arith (.plain rfl) (.plain rfl) rfl (fun _ => bd64 (by omega)))
          apply Trace.pu [] (.assign (.plain rfl))
          exact .nil _
        · exact keepOK_of hk hn rfl
        exact ⟨i + 1, ⟨by omega, fun j hj => by
          by_cases h : j = i
          · rw [h, hxe]; exact hsx
          · exact hi.2 j (by omega)⟩, by omega, St.le_cons rfl (St.le_cons (iv_eq (by omega)) (St.le_nil _))⟩
    · have hG : nmOk xs = true := by
        have : xs.all smp = true := List.all_eq_true.2 fun z hz => by
          obtain ⟨j, hj, rfl⟩ := List.getElem_of_mem hz
          have := hi.2 j (by simp at hc2; omega)
          rwa [List.getD_eq_getElem?_getD, List.getElem?_eq_getElem hj] at this
        cases xs with
        | nil => simp at hne
        | cons x r => simp [nmOk] at this ⊢; exact this
      apply WPA.exit
      apply WPA.seq
      apply WPA.region
      · apply Trace.pu [] (.assign (.plain rfl))
        exact .nil _
      · exact keepOK_of hk hn rfl
      apply WPA.ret
      refine ⟨.inr rfl, ⟨_, (.cons (.tmp rfl) .nil), ?_⟩, by simp [St.get]⟩
      rw [hG]; rfl
/-- soundpost/soundpostref25.Digest -/
theorem spec32 (xs : List Int) (hx : xs.length ≤ 1000) (hb : ∀ x ∈ xs, -9223372036854775808 ≤ x ∧ x ≤ 9223372036854775807) : FnSpec Tryd.prog 32 [.d (intsD xs)] [] (.d (byD (nmD xs))) [] [] := by
  refine fnSpec_of (rs := [.cell 2 27]) Tryd.func32 rfl rfl (Nat.le_of_ble_eq_true rfl) (by simp [St.get]) fun E hk hn => ?_
  apply WPA.seq
  apply WPA.region
  · apply Trace.alloc 2 [] (.data (List.replicate 32 (D.v (.int .u8 0)))) zo27 (cellsAs_data _) rfl
    exact .nil _
  · exact keepOK_of hk hn rfl
  apply WPA.seq
  apply WPA.region
  · apply Trace.pu [] (.build zo53 pl53 (.cons (.plain rfl) rfl rfl (Nat.le_of_ble_eq_true rfl) (.nil _ _)) rfl)
    apply Trace.alloc 3 [] (.data _) zo53 (cellsAs_data _) rfl
    first | apply Trace.storeD ty53 (.plain rfl) (.plain rfl) rfl rfl (by simp) (by simp [AV.oneB, single]) (by simp) (spliceL_all (by simp)) | apply Trace.storeD ty53 (.plain rfl) (.plain rfl) rfl rfl (by simp) (by simp [AV.oneB, single]) (by simp) rfl | apply Trace.storeDA ty53 (.plain rfl) (.plain rfl) rfl rfl (by simp) (by simp [AV.oneB, single]) (by simp) rfl | apply Trace.storeLoc ty53 (.plain rfl) (.plain rfl) rfl rfl (by simp) (by simp [AV.oneB, single]) (by simp) rfl | apply Trace.storeRow ty53 (.plain rfl) (.plain rfl) rfl rfl rfl rfl (by decide) (by simp [AV.oneB, single]) rfl (by omega)
    exact .nil _
  · exact keepOK_of hk hn rfl
  apply WPA.seq
  apply WPA.seq
  apply WPA.region
  · apply Trace.pu [] (.assign (.plain rfl))
    exact .nil _
  · exact keepOK_of hk hn rfl
  apply WPA.block
  refine WPA.ghost (Ghost.dataCells (l := 3) rfl rfl) ?_
  refine WPA.ghost (Ghost.cellNil (lb := 3) (j := 3) (l := 5) (cols := valCols []) (n := 4) rfl rfl rfl rfl (by rw [hk]; decide) rfl (valCols_len []) rfl) ?_
  refine WPA.loop (σ := Nat) (fun i => [(sl 0, .av (.d (intsD xs))), (sl 2, .av (.loc 2 0)), (sl 3, .av (.loc 3 0)), (sl 4, .av (iv .i64 (i))), (bk 2, .blk (.data (List.replicate 32 (D.v (.int .u8 0))))), (bk 3, .blk (.cells [iv .i64 3, iv .i64 0, sv ⟨#[]⟩, .own 5 ((xs.take i).map numV).length])), (bk 5, .blk (.app 4 ((xs.take i).map numV).length (valCols ((xs.take i).map numV))))]) (fun i => i ≤ xs.length) (fun i => xs.length - i) 0
    (St.le_cons rfl (St.le_cons rfl (St.le_cons rfl (St.le_cons rfl (St.le_cons rfl (St.le_cons rfl (St.le_cons rfl (St.le_nil _)))))))) (Nat.zero_le _) fun i hi => ?_
  apply WPA.seq
  apply WPA.seq
  apply WPA.region
  · apply Trace.pu [] (.move (.plain rfl))
    apply Trace.pu [] (.move (.plain rfl))
    apply Trace.pu [] (.len rfl Tryd.underlying25 (.plain rfl) rfl)
    apply Trace.pu [] (.cmp (.plain rfl) (.plain rfl) rfl)
    exact .nil _
  · exact keepOK_of hk hn rfl
  refine WPA.cond rfl (fun hc1 => ?_) (fun hc1 => ?_)
  · have hlt : i < xs.length := by simp at hc1; omega
    have hvl : ((xs.take i).map numV).length = i := by simp; omega
    obtain ⟨x, hxe⟩ : ∃ x, xs.getD i 0 = x := ⟨_, rfl⟩
    have htk := listV_take hlt
    rw [hxe] at htk
    obtain ⟨vs, hvs⟩ : ∃ vs, ((xs.take i).map numV) = vs := ⟨_, rfl⟩
    rw [hvs] at htk hvl
    rw [hvs]
    apply WPA.skip
    apply WPA.seq
    apply WPA.block
    apply WPA.draw mixed
    · apply Trace.pu [] (.fieldAddr fl53_3 (.plain rfl) rfl)
      first | apply Trace.pu [_] (.loadLoc1D ty51 (.plain rfl) rfl rfl) | apply Trace.pu [_] (.loadLoc1 ty51 (.plain rfl) rfl rfl) | apply Trace.pu [] (.loadRp1 ty51 (.plain rfl) rfl) | apply Trace.pu [_] (.loadCol1 ty51 (.plain rfl) rfl rfl rfl (fun _ => by omega))
      apply Trace.pu [] (.move (.plain rfl))
      apply Trace.pu [] (.move (.plain rfl))
      first | apply Trace.pu [] (.indexRows el25 (.plain rfl) (.plain rfl) (fun _ => ⟨by omega, by omega⟩)) | apply Trace.pu [] (.indexOwn el25 (.plain rfl) (.plain rfl) (fun _ => ⟨by omega, by omega⟩)) | apply Trace.pu [] (.indexSl el25 (.plain rfl) (.plain rfl) (fun _ => ⟨by omega, by omega⟩)) | apply Trace.pu [] (.indexSa el25 (.plain rfl) (.plain rfl) (fun _ => ⟨by omega, by omega⟩))
      apply Trace.pu [] (.loadRp1 ty3 (.plain rfl) (r := .v (.int .i64 x)) (by show [D.v (.int .i64 (xs.getD ((i : Int)).toNat 0))][0]? = _; rw [Int.toNat_natCast, hxe]; rfl))
      apply Trace.cu (callArgs0 (.cons (.plain rfl) .nil)) (spec44 x) en44
      apply Trace.buildSlice 21 [] so51 zo53 rfl (by decide) (by decide) (.cons (.plain rfl) rfl rfl (Nat.le_of_ble_eq_true rfl) (.nil _ _)) rfl rfl rfl
      apply Trace.append 22 [bk 5] ap51 kd51 (by decide) (.own (.plain rfl) rfl) (.own (.plain rfl) rfl) (Col.ones rfl) (labs_ok rfl) (by omega) (by omega) (valCols_snoc vs 1 x ⟨#[]⟩ []) rfl
      apply Trace.pu [] (.fieldAddr fl53_3 (.plain rfl) rfl)
      apply Trace.storeLoc ty51 (.plain rfl) (.plain rfl) rfl rfl rfl (by simp [AV.oneB, single]) (Nat.le_of_ble_eq_true rfl) rfl
      exact .nil _
    · rfl
    · exact keepOK_of hk hn rfl
    refine WPA.ghost (Ghost.swap 5 22 (by rw [hk]; decide) (by rw [hk]; decide) rfl) ?_
    apply WPA.region
    · apply Trace.pu [] (.move (.plain rfl))
      apply Trace.pu [] (.arith (.plain rfl) (.plain rfl) rfl (fun _ => bd64 (by omega)))
      apply Trace.pu [] (.assign (.plain rfl))
      exact .nil _
    · exact keepOK_of hk hn rfl
    exact ⟨i + 1, by omega, by omega, St.le_cons rfl (St.le_cons rfl (St.le_cons rfl (St.le_cons (iv_eq (by omega)) (St.le_cons rfl (St.le_cons (by rw [htk]; exact vcell_st (by simp)) (St.le_cons (by rw [htk]; exact vapp_st rfl (by simp)) (St.le_nil _)))))))⟩
  · have hend : i = xs.length := by simp at hc1; omega
    subst hend
    rw [List.take_length]
    apply WPA.exit
    apply WPA.seq
    refine WPA.ghost (Ghost.cellFreeze (lb := 3) (j := 3) (l := 5) (g := Val.row (xs.map numV)) rfl rfl rfl rfl (fun j hj => valCols_row (xs.map numV) j hj) rfl) ?_
    apply WPA.region
    · apply Trace.pu [_] ((Pure.loadLoc ty53 (.plain rfl) rfl (fun _ => Nat.le_of_ble_eq_true rfl)).to (y := (listV xs).av) (by rfl))
      apply Trace.ct (callArgs0 (.cons (.plain rfl) .nil)) (spec45 (listV xs) (listV_sz hx hb) (by rw [listV_depth]; decide) (by rw [listV_encoded]; have := listV_len hx hb; omega)) en45
      apply Trace.pu [] (.move (.plain rfl))
      apply Trace.pu [] (.extract (.plain rfl) rfl)
      apply Trace.pu [] (.extract (.plain rfl) rfl)
      apply Trace.pu [] (.assign (.plain rfl))
      apply Trace.pu [] (.assign (.plain rfl))
      exact .nil _
    · exact keepOK_of hk hn rfl
    apply WPA.seq
    apply WPA.region
    · apply Trace.pu [] (.move (.plain rfl))
      apply Trace.cu (callArgs0 (.cons (.plain rfl) (.cons (.plain rfl) .nil))) (spec46 ⟨#[116, 97, 107, 101]⟩ (by decide) (listV xs).encoded _ (by rw [listV_encoded]; have := listV_len hx hb; omega) (fun i hi => rfl)) en46
      apply Trace.storeD (cs' := (nmD xs).map fun x => .v (.int .u8 x)) ty27 (.plain rfl) (.plain rfl) rfl (by rw [listV_encoded]; rfl) (by simp [nmD, tagM_length]) (by_one _) (by decide) (spliceL_all (by simp [nmD, tagM_length]))
      exact .nil _
    · exact keepOK_of hk hn rfl
    apply WPA.ret
    refine ⟨.inr rfl, ⟨_, (.cons (.cellD rfl rfl ty27 (by simp [nmD, tagM_length])) .nil), ?_⟩, by simp [St.get]⟩
    rfl
/-- soundpost/soundpostref25.Less -/
theorem spec36 (a b : List Int) (ha : a.length = 32) (hb : b.length = 32) : FnSpec Tryd.prog 36 [.d (byD a), .d (byD b)] [] (bv (ltL a b)) [] [] := by
  refine fnSpec_of (rs := [.tmp 4]) Tryd.func36 rfl rfl (Nat.le_of_ble_eq_true rfl) (by simp [St.get]) fun E hk hn => ?_
  apply WPA.seq
  apply WPA.region
  · apply Trace.boxD 2 [] (.plain rfl) rfl rfl
    apply Trace.boxD 3 [] (.plain rfl) rfl rfl
    apply Trace.pu [] (.assign (.plain rfl))
    exact .nil _
  · exact keepOK_of hk hn rfl
  apply WPA.seq
  apply WPA.seq
  refine WPA.ghost (Ghost.dataCols (l := 2) (n := 32) (col := .ints .u8 a) rfl (by simp [ha]) (colOf_by (by omega))) ?_
  refine WPA.ghost (Ghost.dataCols (l := 3) (n := 32) (col := .ints .u8 b) rfl (by simp [hb]) (colOf_by (by omega))) ?_
  apply WPA.region
  · apply Trace.pu [] (.assign (.plain rfl))
    exact .nil _
  · exact keepOK_of hk hn rfl
  apply WPA.block
  refine WPA.loop (σ := Nat) (fun i => [(sl 2, .av (.loc 2 0)), (sl 3, .av (.loc 3 0)), (sl 5, .av (iv .i64 (i))), (bk 2, .blk (.cols 1 32 [.ints .u8 a])), (bk 3, .blk (.cols 1 32 [.ints .u8 b]))]) (fun i => i ≤ 32 ∧ ∀ j, j < i → a.getD j 0 = b.getD j 0) (fun i => 32 - i) 0
    (St.le_cons rfl (St.le_cons rfl (St.le_cons rfl (St.le_cons rfl (St.le_cons rfl (St.le_nil _)))))) ⟨Nat.zero_le _, fun j hj => absurd hj (by omega)⟩ fun i hi => ?_
  apply WPA.seq
  apply WPA.seq
  apply WPA.region
  · apply Trace.pu [] (.move (.plain rfl))
    apply Trace.pu [] (.cmp (.plain rfl) (.plain rfl) rfl)
    exact .nil _
  · exact keepOK_of hk hn rfl
  refine WPA.cond rfl (fun hc1 => ?_) (fun hc1 => ?_)
  · have hlt : i < 32 := by simp at hc1; omega
    apply WPA.skip
    apply WPA.seq
    apply WPA.block
    apply WPA.seq
    apply WPA.draw mixed
    · apply Trace.pu [] (.move (.plain rfl))
      apply Trace.pu [] (.indexArr ar27 (.plain rfl) (.plain rfl) (fun _ => ⟨by omega, by omega⟩))
      apply Trace.pu [_] ((Pure.loadCol1 ty5 (.plain rfl) rfl rfl rfl (fun _ => by omega)).to (y := iv .u8 (a.getD i 0)) (by exact by_at (by omega)))
      apply Trace.pu [] (.move (.plain rfl))
      apply Trace.pu [] (.indexArr ar27 (.plain rfl) (.plain rfl) (fun _ => ⟨by omega, by omega⟩))
      apply Trace.pu [_] ((Pure.loadCol1 ty5 (.plain rfl) rfl rfl rfl (fun _ => by omega)).to (y := iv .u8 (b.getD i 0)) (by exact by_at (by omega)))
      apply Trace.pu [] (.cmp (.plain rfl) (.plain rfl) rfl)
      exact .nil _
    · rfl
    · exact keepOK_of hk hn rfl
    refine WPA.cond rfl (fun hc2 => ?_) (fun hc2 => ?_)
    · have hne : ¬ a.getD i 0 = b.getD i 0 := by simpa using hc2
      have hL := ltL_at i (by omega) (by omega) hi.2 hne
      apply WPA.seq
      apply WPA.draw mixed
      · apply Trace.pu [] (.move (.plain rfl))
        apply Trace.pu [] (.indexArr ar27 (.plain rfl) (.plain rfl) (fun _ => ⟨by omega, by omega⟩))
        apply Trace.pu [_] ((Pure.loadCol1 ty5 (.plain rfl) rfl rfl rfl (fun _ => by omega)).to (y := iv .u8 (a.getD i 0)) (by exact by_at (by omega)))
        apply Trace.pu [] (.move (.plain rfl))
        apply Trace.pu [] (.indexArr ar27 (.plain rfl) (.plain rfl) (fun _ => ⟨by omega, by omega⟩))
        apply Trace.pu [_] ((Pure.loadCol1 ty5 (.plain rfl) rfl rfl rfl (fun _ => by omega)).to (y := iv .u8 (b.getD i 0)) (by exact by_at (by omega)))
        apply Trace.pu [] (.cmp (.plain rfl) (.plain rfl) rfl)
        apply Trace.pu [] (.assign (.plain rfl))
        exact .nil _
      · rfl
      · exact keepOK_of hk hn rfl
      apply WPA.ret
      refine ⟨.inr rfl, ⟨_, (.cons (.tmp rfl) .nil), ?_⟩, by simp [St.get]⟩
      rw [hL]; rfl
    · have he : a.getD i 0 = b.getD i 0 := by simpa using hc2
      apply WPA.skip
      apply WPA.region
      · apply Trace.pu [] (.move (.plain rfl))
        apply Trace.pu [] (.arith (.plain rfl) (.plain rfl) rfl (fun _ => bd64 (by omega)))
        apply Trace.pu [] (.assign (.plain rfl))
        exact .nil _
      · exact keepOK_of hk hn rfl
      exact ⟨i + 1, ⟨by omega, fun j hj => by
        by_cases h : j = i
        · rw [h]; exact he
        · exact hi.2 j (by omega)⟩, by omega, St.le_cons rfl (St.le_cons rfl (St.le_cons (iv_eq (by omega)) (St.le_cons rfl (St.le_cons rfl (St.le_nil _)))))⟩
  · have hab : a = b := ints_eq (by omega) fun j hj => hi.2 j (by simp at hc1; omega)
    have hL : ltL a b = false := by rw [hab]; exact ltL_irrefl b
    apply WPA.exit
    apply WPA.seq
    apply WPA.region
    · apply Trace.pu [] (.assign (.plain rfl))
      exact .nil _
    · exact keepOK_of hk hn rfl
    apply WPA.ret
    refine ⟨.inr rfl, ⟨_, (.cons (.tmp rfl) .nil), ?_⟩, by simp [St.get]⟩
    rw [hL]; rfl
/-- soundpost/soundpostref25.Find -/
theorem spec33 (ts : List Tk) (hts : ∀ t ∈ ts, t.Ok) (hn1 : ts.length ≤ 1000) (k : List Int) (hkl : k.length = 32) : FnSpec Tryd.prog 33 [.d (poolD ts), .d (byD k)] [] (iv .i64 (fdR ts k)) [] [] := by
  refine fnSpec_of (rs := [.tmp 4]) Tryd.func33 rfl rfl (Nat.le_of_ble_eq_true rfl) (by simp [St.get]) fun E hk hn => ?_
  apply WPA.seq
  apply WPA.region
  · apply Trace.boxD 2 [] (.plain rfl) rfl rfl
    apply Trace.boxD 3 [] (.plain rfl) rfl rfl
    apply Trace.pu [] (.assign (.plain rfl))
    exact .nil _
  · exact keepOK_of hk hn rfl
  apply WPA.seq
  apply WPA.seq
  apply WPA.region
  · apply Trace.pu [] (.assign (.plain rfl))
    exact .nil _
  · exact keepOK_of hk hn rfl
  apply WPA.block
  refine WPA.loop (σ := Nat) (fun i => [(sl 2, .av (.loc 2 0)), (sl 3, .av (.loc 3 0)), (sl 5, .av (iv .i64 (i))), (bk 2, .blk (.data [tksD ts])), (bk 3, .blk (.data (k.map fun x => .v (.int .u8 x))))]) (fun i => i ≤ ts.length ∧ ∀ j, j < i → ¬ (ts.getD j default).d = k) (fun i => ts.length - i) 0
    (St.le_cons rfl (St.le_cons rfl (St.le_cons rfl (St.le_cons rfl (St.le_cons rfl (St.le_nil _)))))) ⟨Nat.zero_le _, fun j hj => absurd hj (by omega)⟩ fun i hi => ?_
  apply WPA.seq
  apply WPA.seq
  apply WPA.region
  · apply Trace.pu [] (.move (.plain rfl))
    apply Trace.pu [] (.fieldAddr fl24_0 (.plain rfl) rfl)
    first | apply Trace.pu [_] (.loadLoc1D ty22 (.plain rfl) rfl rfl) | apply Trace.pu [_] (.loadLoc1 ty22 (.plain rfl) rfl rfl) | apply Trace.pu [] (.loadRp1 ty22 (.plain rfl) rfl) | apply Trace.pu [_] (.loadCol1 ty22 (.plain rfl) rfl rfl rfl (fun _ => by omega))
    apply Trace.pu [] (.len rfl Tryd.underlying22 (.plain rfl) rfl)
    apply Trace.pu [] (.cmp (.plain rfl) (.plain rfl) rfl)
    exact .nil _
  · exact keepOK_of hk hn rfl
  refine WPA.cond rfl (fun hc1 => ?_) (fun hc1 => ?_)
  · have hlt : i < ts.length := by simp at hc1; omega
    have hto : (ts.getD i default).Ok := hts _ (getD_mem' hlt)
    apply WPA.skip
    apply WPA.seq
    apply WPA.block
    apply WPA.seq
    apply WPA.draw mixed
    · apply Trace.pu [] (.fieldAddr fl24_0 (.plain rfl) rfl)
      first | apply Trace.pu [_] (.loadLoc1D ty22 (.plain rfl) rfl rfl) | apply Trace.pu [_] (.loadLoc1 ty22 (.plain rfl) rfl rfl) | apply Trace.pu [] (.loadRp1 ty22 (.plain rfl) rfl) | apply Trace.pu [_] (.loadCol1 ty22 (.plain rfl) rfl rfl rfl (fun _ => by omega))
      apply Trace.pu [] (.move (.plain rfl))
      first | apply Trace.pu [] (.indexRows el22 (.plain rfl) (.plain rfl) (fun _ => ⟨by omega, by omega⟩)) | apply Trace.pu [] (.indexOwn el22 (.plain rfl) (.plain rfl) (fun _ => ⟨by omega, by omega⟩)) | apply Trace.pu [] (.indexSl el22 (.plain rfl) (.plain rfl) (fun _ => ⟨by omega, by omega⟩)) | apply Trace.pu [] (.indexSa el22 (.plain rfl) (.plain rfl) (fun _ => ⟨by omega, by omega⟩))
      apply Trace.pu [] (.fieldAddr fl49_0 (.plain rfl) rfl)
      apply Trace.pu [] ((Pure.loadRp ty27 (.plain rfl) (fun _ => by rw [Int.toNat_natCast, List.drop_zero]; have := tk_len hts (i := i) (by omega); exact Nat.le_trans (by decide) this)).to (y := .d (byD (ts.getD i default).d)) (by rw [Int.toNat_natCast]; exact row_d hts (by omega)))
      apply Trace.pu [_] (.loadAllD ty27 (.plain rfl) rfl (by simp [hkl]))
      apply Trace.pu [] (.aeq ba27 (.plain rfl) (.plain rfl) (fun _ => hto.len) (fun _ => hkl))
      exact .nil _
    · rfl
    · exact keepOK_of hk hn rfl
    refine WPA.cond rfl (fun hc2 => ?_) (fun hc2 => ?_)
    · have he : (ts.getD i default).d = k := by simpa using hc2
      have hF := fdR_at hlt he hi.2
      apply WPA.seq
      apply WPA.region
      · apply Trace.pu [] (.move (.plain rfl))
        apply Trace.pu [] (.assign (.plain rfl))
        exact .nil _
      · exact keepOK_of hk hn rfl
      apply WPA.ret
      refine ⟨.inr rfl, ⟨_, (.cons (.tmp rfl) .nil), ?_⟩, by simp [St.get]⟩
      rw [hF]; rfl
    · have he : ¬ (ts.getD i default).d = k := by simpa using hc2
      apply WPA.skip
      apply WPA.region
      · apply Trace.pu [] (.move (.plain rfl))
        apply Trace.pu [] (.arith (.plain rfl) (.plain rfl) rfl (fun _ => bd64 (by omega)))
        apply Trace.pu [] (.assign (.plain rfl))
        exact .nil _
      · exact keepOK_of hk hn rfl
      exact ⟨i + 1, ⟨by omega, fun j hj => by
        by_cases h : j = i
        · rw [h]; exact he
        · exact hi.2 j (by omega)⟩, by omega, St.le_cons rfl (St.le_cons rfl (St.le_cons (iv_eq (by omega)) (St.le_cons rfl (St.le_cons rfl (St.le_nil _)))))⟩
  · have hF := fdR_no (ts := ts) (k := k) fun j hj => hi.2 j (by simp at hc1; omega)
    apply WPA.exit
    apply WPA.seq
    apply WPA.region
    · apply Trace.pu [] (.assign (.plain rfl))
      exact .nil _
    · exact keepOK_of hk hn rfl
    apply WPA.ret
    refine ⟨.inr rfl, ⟨_, (.cons (.tmp rfl) .nil), ?_⟩, by simp [St.get]⟩
    rw [hF]; rfl

end Go.Proofs.YtmdfamnnnoieaaaDoor


/- soundpostref25: insert, Check, Put, Look, Get. -/
namespace Go.Proofs.YtmdfamnnnoieaaaDoor
open Go
set_option linter.unusedVariables false
set_option linter.unusedSimpArgs false
set_option maxRecDepth 10000
set_option maxHeartbeats 2000000

/-- The columns of takes as data. -/
def tkColsD (ts : List Tk) : List Col := ((List.range 32).map fun j => .ds (ts.map fun t => .v (.int .u8 (t.d.getD j 0)))) ++ [.ds (ts.map fun t => intsD t.xs)]
theorem tkColsD_at (ts : List Tk) (i : Nat) (hi : i < ts.length) : (tkColsD ts).map (Col.at · i) = (tkCols ts).map (Col.at · i) := by
  unfold tkColsD tkCols
  rw [List.map_append, List.map_append, List.map_map, List.map_map]
  congr 1
  refine List.map_congr_left fun j hj => ?_
  simp [Col.at, List.getD_eq_getElem?_getD, hi]
theorem tkColsD_cat (a b : List Tk) : joined (tkColsD a) (tkCols b) = tkColsD (a ++ b) := by
  have key : ∀ (l : List Nat) (u v : List Col), u.length = v.length → catCols ((l.map fun j => Col.ds (a.map fun t => .v (.int .u8 (t.d.getD j 0)))) ++ u) ((l.map fun j => Col.ints .u8 (b.map fun t => t.d.getD j 0)) ++ v) = (l.map fun j => Col.ds ((a ++ b).map fun t => .v (.int .u8 (t.d.getD j 0)))) ++ catCols u v := by
    intro l u v huv
    induction l with
    | nil => rfl
    | cons j r ih => simp only [List.map_cons, List.cons_append, catCols, ih, Col.cat, List.map_append, List.map_map]; rfl
  have hne : ∀ l : List Col, l ≠ [] → ∀ m, joined l m = catCols l m := fun l hl m => by cases l with | nil => exact absurd rfl hl | cons => rfl
  rw [hne _ (by simp [tkColsD])]
  unfold tkColsD tkCols
  refine (key (List.range 32) [.ds (a.map fun t => intsD t.xs)] [.ds (b.map fun t => intsD t.xs)] rfl).trans ?_
  simp [catCols, Col.cat]
theorem tkColsD_nil : colsFrom 33 0 [] = tkColsD [] := by rfl
theorem tkColsD_cat0 (b : List Tk) : joined (colsFrom 33 0 []) (tkCols b) = tkColsD b := by rw [tkColsD_nil, tkColsD_cat]; rfl
theorem insE_at (ts : List Tk) (t : Tk) {i : Nat} (h : atOf ts t.d = i) : insE ts t = ts.take i ++ [t] ++ ts.drop i := by unfold insE; rw [h]
theorem own_eq5 {l m n : Nat} (h : m = n) : AV.own l m = .own l n := by rw [h]
theorem appD_eq {a b : List Tk} {n m : Nat} (h : a = b) (hn : n = m) : some (Cont.blk (.app 33 n (tkColsD a))) = some (Cont.blk (.app 33 m (tkColsD b))) := by rw [h, hn]
theorem met_iff {ts : List Tk} {k : List Int} (hs : Srt ts) : metOf ts k = true ↔ ∃ j, j < ts.length ∧ (ts.getD j default).d = k := by
  unfold metOf
  rw [Bool.and_eq_true, decide_eq_true_eq, decide_eq_true_eq]
  constructor
  · exact fun h => ⟨_, h.1, h.2⟩
  · rintro ⟨j, hj, he⟩
    have h1 : ¬ j < atOf ts k := fun h => by
      have := (at_iff hs hj).2 h
      rw [he, ltL_irrefl] at this
      cases this
    have h2 : ¬ atOf ts k < j := fun h => by
      have h3 := hs (atOf ts k) j h hj
      rw [he] at h3
      have := (at_iff hs (show atOf ts k < ts.length by omega)).1 h3
      omega
    have : atOf ts k = j := by omega
    rw [this]
    exact ⟨hj, he⟩
theorem fdR_cases (ts : List Tk) (k : List Int) : (fdR ts k = -1 ∧ lookE ts k = ([], false) ∧ ∀ j, j < ts.length → ¬ (ts.getD j default).d = k) ∨ ∃ i : Nat, i < ts.length ∧ fdR ts k = (i : Int) ∧ lookE ts k = ((ts.getD i default).xs, true) ∧ (ts.getD i default).d = k := by
  by_cases h : ∃ j, j < ts.length ∧ (ts.getD j default).d = k
  · right
    obtain ⟨j, hj, he⟩ := h
    have : ∃ i, (i < ts.length ∧ (ts.getD i default).d = k) ∧ ∀ m, m < i → ¬ (m < ts.length ∧ (ts.getD m default).d = k) := by
      have key : ∀ n, (∃ j, j < n ∧ j < ts.length ∧ (ts.getD j default).d = k) → ∃ i, (i < ts.length ∧ (ts.getD i default).d = k) ∧ ∀ m, m < i → ¬ (m < ts.length ∧ (ts.getD m default).d = k) := by
        intro n
        induction n with
        | zero => rintro ⟨j, h, _⟩; omega
        | succ n ih =>
          rintro ⟨j, h1, h2, h3⟩
          by_cases hx : ∃ j, j < n ∧ j < ts.length ∧ (ts.getD j default).d = k
          · exact ih hx
          · refine ⟨j, ⟨h2, h3⟩, fun m hm hh => hx ⟨m, by omega, hh⟩⟩
      exact key (ts.length) ⟨j, hj, hj, he⟩
    obtain ⟨i, ⟨hi, he2⟩, hn⟩ := this
    have hn' : ∀ j, j < i → ¬ (ts.getD j default).d = k := fun m hm e => hn m hm ⟨by omega, e⟩
    exact ⟨i, hi, fdR_at hi he2 hn', by unfold lookE; rw [find_at hi he2 hn'], he2⟩
  · left
    have hn : ∀ j, j < ts.length → ¬ (ts.getD j default).d = k := fun j hj e => h ⟨j, hj, e⟩
    exact ⟨fdR_no hn, by unfold lookE; rw [find_no hn], hn⟩
theorem fdR_met {ts : List Tk} {k : List Int} (hs : Srt ts) : (0 ≤ fdR ts k) ↔ metOf ts k = true := by
  rw [met_iff hs]
  rcases fdR_cases ts k with ⟨h1, _, h2⟩ | ⟨i, hi, h1, _, h2⟩
  · rw [h1]
    exact ⟨fun h => by omega, fun ⟨j, hj, e⟩ => absurd e (h2 j hj)⟩
  · rw [h1]
    exact ⟨fun _ => ⟨i, hi, h2⟩, fun _ => by omega⟩
theorem srt_inj {ts : List Tk} (hs : Srt ts) {i j : Nat} (hi : i < ts.length) (hj : j < ts.length) (h : (ts.getD i default).d = (ts.getD j default).d) : i = j := by
  rcases Nat.lt_trichotomy i j with h1 | h1 | h1
  · have := hs i j h1 hj; rw [h, ltL_irrefl] at this; cases this
  · exact h1
  · have := hs j i h1 hi; rw [h, ltL_irrefl] at this; cases this
theorem getE_look {ts : List Tk} {k : List Int} (hc : chk ts = true) : getE ts k = ((lookE ts k).1, if (lookE ts k).2 then 0 else 251) := by
  have hs := chk_srt hc
  unfold getE
  rw [if_pos hc]
  rcases fdR_cases ts k with ⟨h1, h3, h2⟩ | ⟨i, hi, h1, h3, h2⟩
  · have : metOf ts k = false := by
      cases h : metOf ts k with
      | false => rfl
      | true => obtain ⟨j, hj, e⟩ := (met_iff hs).1 h; exact absurd e (h2 j hj)
    rw [this, h3]
    rfl
  · have hm : metOf ts k = true := (met_iff hs).2 ⟨i, hi, h2⟩
    have hm2 := hm
    unfold metOf at hm2
    rw [Bool.and_eq_true, decide_eq_true_eq, decide_eq_true_eq] at hm2
    have : atOf ts k = i := srt_inj hs hm2.1 hi (hm2.2.trans h2.symm)
    rw [hm, h3, this]
    rfl
theorem mkAgg_cells (d : List Int) (xs : List Int) : mkAgg ((d.map fun x => D.v (.int .u8 x)).map .d ++ [.d (intsD xs)]) = .d (.agg (Tk.cells ⟨d, xs⟩)) := by
  have : (d.map fun x => D.v (.int .u8 x)).map AV.d ++ [.d (intsD xs)] = (Tk.cells ⟨d, xs⟩).map .d := by simp [Tk.cells]
  rw [this]
  simp only [mkAgg, dsOf_map]
theorem Pure.toc {P : Program} {S : St} {bl : List Nat} {o : Oper} {c : Bool} {x y : AV} (h : Pure P S bl o c x) (e : c = true → x = y) : Pure P S bl o c y := by
  cases c with
  | true => exact h.to (e rfl)
  | false => exact ⟨h.1, fun _ _ _ _ _ _ hc => nomatch hc⟩
/-- soundpost/soundpostref25.insert -/
theorem spec34 (ts : List Tk) (hts : ∀ t ∈ ts, t.Ok) (hn1 : ts.length ≤ 1000) (t : Tk) (hto : t.Ok) : FnSpec Tryd.prog 34 [.d (tksD ts), .d (.agg t.cells)] [] (.own 0 (insE ts t).length) [(bk 0, .blk (.app 33 (insE ts t).length (tkColsD (insE ts t))))] [] := by
  refine fnSpec_of (rs := [.tmp 4]) Tryd.func34 rfl rfl (Nat.le_of_ble_eq_true rfl) (by simp [St.get]) fun E hk hn => ?_
  apply WPA.seq
  apply WPA.region
  · apply Trace.boxD 3 [] (.plain rfl) rfl rfl
    apply Trace.pu [] (.assign (.plain rfl))
    exact .nil _
  · exact keepOK_of hk hn rfl
  apply WPA.seq
  apply WPA.region
  · apply Trace.pu [] (.assign (.plain rfl))
    exact .nil _
  · exact keepOK_of hk hn rfl
  apply WPA.seq
  apply WPA.block
  refine WPA.loop (σ := Nat) (fun i => [(sl 0, .av (.d (tksD ts))), (sl 3, .av (.loc 3 0)), (sl 5, .av (iv .i64 (i))), (bk 3, .blk (.data t.cells))]) (fun i => i ≤ ts.length ∧ ∀ j, j < i → ltL (ts.getD j default).d t.d = true) (fun i => ts.length - i) 0
    (St.le_cons rfl (St.le_cons rfl (St.le_cons rfl (St.le_cons rfl (St.le_nil _))))) ⟨Nat.zero_le _, fun j hj => absurd hj (by omega)⟩ fun i hi => ?_
  apply WPA.seq
  apply WPA.seq
  apply WPA.draw mixed
  · apply Trace.pu [] (.move (.plain rfl))
    apply Trace.pu [] (.move (.plain rfl))
    apply Trace.pu [] (.len rfl Tryd.underlying22 (.plain rfl) rfl)
    apply Trace.pu [] (.cmp (.plain rfl) (.plain rfl) rfl)
    apply Trace.pu [] (.move (.plain rfl))
    apply Trace.pg [] rfl (.move (.plain rfl))
    apply Trace.pg [] rfl (.move (.plain rfl))
    apply Trace.pg [] rfl (.indexRows el22 (.gd rfl (fun h => h)) (.gd rfl (fun h => h)) (fun h => by simp at h; omega))
    apply Trace.pg [] rfl (.fieldAddr fl49_0 (.gd rfl (fun h => h)) rfl)
    apply Trace.pg [] rfl ((Pure.loadRp ty27 (.gd rfl (fun h => h)) (fun h => by simp at h; rw [Int.toNat_natCast, List.drop_zero]; have := tk_len hts (i := i) (by omega); exact Nat.le_trans (by decide) this)).toc (y := .d (byD (ts.getD i default).d)) (fun h => by simp at h; rw [Int.toNat_natCast]; exact row_d hts (by omega)))
    apply Trace.pg [] rfl (.fieldAddr fl49_0 (.plain rfl) rfl)
    apply Trace.pg [_] rfl ((Pure.loadLocD ty27 (.gd rfl (fun h => h)) rfl (fun _ => by rw [Tk.cells_length hto.len]; decide)).to (y := .d (byD t.d)) (by rw [cells_d hto.len]))
    apply Trace.cg rfl (callArgs0 (.cons (.gd rfl (fun h => h)) (.cons (.gd rfl (fun h => h)) .nil))) (fun h => spec36 (ts.getD i default).d t.d (hts _ (getD_mem' (by simp at h; omega))).len hto.len) en36
    apply Trace.pu [] (.pick (.plain rfl) (.gd rfl (by simp)) (.plain rfl))
    exact .nil _
  · rfl
  · exact keepOK_of hk hn rfl
  refine WPA.cond rfl (fun hc1 => ?_) (fun hc1 => ?_)
  · have hc := pick_eq hc1
    have hlt : i < ts.length := by
      rcases hc with ⟨h, _⟩ | ⟨_, h⟩
      · simp at h; omega
      · cases h
    have hL : ltL (ts.getD i default).d t.d = true := by
      rcases hc with ⟨_, h⟩ | ⟨_, h⟩
      · exact h
      · cases h
    apply WPA.skip
    apply WPA.block
    apply WPA.region
    · apply Trace.pu [] (.move (.plain rfl))
      apply Trace.pu [] (.arith (.plain rfl) (.plain rfl) rfl (fun _ => bd64 (by omega)))
      apply Trace.pu [] (.assign (.plain rfl))
      exact .nil _
    · exact keepOK_of hk hn rfl
    exact ⟨i + 1, ⟨by omega, fun j hj => by
      by_cases h : j = i
      · rw [h]; exact hL
      · exact hi.2 j (by omega)⟩, by omega, St.le_cons rfl (St.le_cons rfl (St.le_cons (iv_eq (by omega)) (St.le_cons rfl (St.le_nil _))))⟩
  · have hA := at_stop hi.1 hi.2 (fun hlt => by
      rcases pick_ne hc1 with ⟨_, h⟩ | ⟨h, _⟩
      · exact h
      · simp at h; omega)
    have hil := hi.1
    have hIn := insE_at ts t hA
    have hIl := insE_length ts t
    apply WPA.exit
    apply WPA.seq
    apply WPA.draw mixed
    · apply Trace.buildSlice 22 [] so22 zo49 rfl (by decide) (by decide) (.nil _ _) rfl rfl rfl
      apply Trace.pu [] (.move (.plain rfl))
      apply Trace.pu [] (.move (.plain rfl))
      apply Trace.pu [] ((Pure.cutRows so22 (.plain rfl) (.no _) (.to _ (.plain rfl) (fun _ => by omega)) (fun _ => ⟨by omega, by omega⟩)).to (y := .d (.rows 33 i fun j => tkRow ts (0 + j))) (by rw [Int.toNat_natCast, Nat.sub_zero]))
      apply Trace.append 26 [bk 22, sl 22] ap22 kd22 (by decide) (.own (.plain rfl) rfl) (.rows (cs := tkCols (ts.take i)) (.plain rfl) (tkCols_length _) (fun c hc => by rw [tkCols_len _ c hc]; simp; omega) (rows_take hts hil)) (tkCols_one _) (labs_ok rfl) (by omega) (by omega) (tkColsD_cat0 _) rfl
      apply Trace.pu [_] (.loadAllD ty49 (.plain rfl) rfl (Tk.cells_length hto.len))
      apply Trace.buildOne so22 zo49 rfl (by decide) (by decide) (.plain rfl) (Tk.cells_length hto.len)
      apply Trace.append 29 [bk 26, sl 26] ap22 kd22 (by decide) (.own (.plain rfl) rfl) (.rows (cs := tkCols [t]) (.plain rfl) (tkCols_length _) (fun c hc => by rw [tkCols_len _ c hc]; rfl) (rows_one hto)) (tkCols_one _) (labs_ok rfl) (by omega) (by omega) (tkColsD_cat _ _) rfl
      apply Trace.pu [] (.move (.plain rfl))
      apply Trace.pu [] (.move (.plain rfl))
      apply Trace.pu [] ((Pure.cutRows so22 (.plain rfl) (.to _ (.plain rfl) (fun _ => by omega)) (.no _) (fun _ => ⟨by omega, by omega⟩)).to (y := .d (.rows 33 (ts.length - i) fun j => tkRow ts (i + j))) (by rw [Int.toNat_natCast]))
      apply Trace.append 0 [bk 29, sl 29] ap22 kd22 (by decide) (.own (.plain rfl) rfl) (.rows (cs := tkCols (ts.drop i)) (.plain rfl) (tkCols_length _) (fun c hc => by rw [tkCols_len _ c hc]; simp) (rows_drop hts)) (tkCols_one _) (labs_ok rfl) (by omega) (by omega) (tkColsD_cat _ _) rfl
      apply Trace.pu [] (.assign (.plain rfl))
      exact .nil _
    · rfl
    · exact keepOK_of hk hn rfl
    apply WPA.ret
    refine ⟨.inr rfl, ⟨_, (.cons (.tmp rfl) .nil), ?_⟩, blks_of (.cons (appD_eq (by rw [hIn]) (by omega)) .nil)⟩
    exact own_eq5 (by omega)
theorem insF (ts : List Tk) (hts : ∀ t ∈ ts, t.Ok) (hn1 : ts.length ≤ 1000) (t : Tk) (hto : t.Ok) : FnSpec Tryd.prog 34 [.d (tksD ts), .d (.agg t.cells)] [] (.d (tksD (insE ts t))) [] [] :=
  (spec34 ts hts hn1 t hto).frozen fun i hi => by
    rw [tkColsD_at _ _ hi]
    exact tkCols_row (fun s hs => by rcases insE_mem.1 hs with h | h; exact hts s h; rw [h]; exact hto) hi
/-- soundpost/soundpostref25.Check -/
theorem spec20 (ts : List Tk) (hts : ∀ t ∈ ts, t.Ok) (hn1 : ts.length ≤ 1000) : FnSpec Tryd.prog 20 [.d (poolD ts)] [] (iv .i64 (ckE ts)) [] [] := by
  refine fnSpec_of (rs := [.tmp 2]) Tryd.func20 rfl rfl (Nat.le_of_ble_eq_true rfl) (by simp [St.get]) fun E hk hn => ?_
  apply WPA.seq
  apply WPA.region
  · apply Trace.boxD 1 [] (.plain rfl) rfl rfl
    apply Trace.pu [] (.assign (.plain rfl))
    exact .nil _
  · exact keepOK_of hk hn rfl
  apply WPA.seq
  apply WPA.seq
  apply WPA.region
  · apply Trace.pu [] (.fieldAddr fl24_0 (.plain rfl) rfl)
    first | apply Trace.pu [_] (.loadLoc1D ty22 (.plain rfl) rfl rfl) | apply Trace.pu [_] (.loadLoc1 ty22 (.plain rfl) rfl rfl) | apply Trace.pu [] (.loadRp1 ty22 (.plain rfl) rfl) | apply Trace.pu [_] (.loadCol1 ty22 (.plain rfl) rfl rfl rfl (fun _ => by omega))
    apply Trace.pu [] (.len rfl Tryd.underlying22 (.plain rfl) rfl)
    apply Trace.pu [] (.cmp (.plain rfl) (.plain rfl) rfl)
    exact .nil _
  · exact keepOK_of hk hn rfl
  refine WPA.cond rfl (fun hc1 => ?_) (fun hc1 => ?_)
  · simp at hc1; omega
  · apply WPA.skip
    apply WPA.seq
    apply WPA.seq
    apply WPA.region
    · apply Trace.pu [] (.assign (.plain rfl))
      exact .nil _
    · exact keepOK_of hk hn rfl
    apply WPA.block
    refine WPA.loop (σ := Nat) (fun i => [(sl 1, .av (.loc 1 0)), (sl 3, .av (iv .i64 (i))), (bk 1, .blk (.data [tksD ts]))]) (fun i => i ≤ ts.length ∧ ∀ j, j < i → okAt ts j = true) (fun i => ts.length - i) 0
      (St.le_cons rfl (St.le_cons rfl (St.le_cons rfl (St.le_nil _)))) ⟨Nat.zero_le _, fun j hj => absurd hj (by omega)⟩ fun i hi => ?_
    apply WPA.seq
    apply WPA.seq
    apply WPA.region
    · apply Trace.pu [] (.move (.plain rfl))
      apply Trace.pu [] (.fieldAddr fl24_0 (.plain rfl) rfl)
      first | apply Trace.pu [_] (.loadLoc1D ty22 (.plain rfl) rfl rfl) | apply Trace.pu [_] (.loadLoc1 ty22 (.plain rfl) rfl rfl) | apply Trace.pu [] (.loadRp1 ty22 (.plain rfl) rfl) | apply Trace.pu [_] (.loadCol1 ty22 (.plain rfl) rfl rfl rfl (fun _ => by omega))
      apply Trace.pu [] (.len rfl Tryd.underlying22 (.plain rfl) rfl)
      apply Trace.pu [] (.cmp (.plain rfl) (.plain rfl) rfl)
      exact .nil _
    · exact keepOK_of hk hn rfl
    refine WPA.cond rfl (fun hc2 => ?_) (fun hc2 => ?_)
    · have hlt : i < ts.length := by simp at hc2; omega
      obtain ⟨t, hte⟩ : ∃ t, ts.getD i default = t := ⟨_, rfl⟩
      have hto : t.Ok := by rw [← hte]; exact hts _ (getD_mem' hlt)
      apply WPA.skip
      apply WPA.seq
      apply WPA.block
      apply WPA.seq
      apply WPA.region
      · apply Trace.pu [] (.fieldAddr fl24_0 (.plain rfl) rfl)
        first | apply Trace.pu [_] (.loadLoc1D ty22 (.plain rfl) rfl rfl) | apply Trace.pu [_] (.loadLoc1 ty22 (.plain rfl) rfl rfl) | apply Trace.pu [] (.loadRp1 ty22 (.plain rfl) rfl) | apply Trace.pu [_] (.loadCol1 ty22 (.plain rfl) rfl rfl rfl (fun _ => by omega))
        apply Trace.pu [] (.move (.plain rfl))
        first | apply Trace.pu [] (.indexRows el22 (.plain rfl) (.plain rfl) (fun _ => ⟨by omega, by omega⟩)) | apply Trace.pu [] (.indexOwn el22 (.plain rfl) (.plain rfl) (fun _ => ⟨by omega, by omega⟩)) | apply Trace.pu [] (.indexSl el22 (.plain rfl) (.plain rfl) (fun _ => ⟨by omega, by omega⟩)) | apply Trace.pu [] (.indexSa el22 (.plain rfl) (.plain rfl) (fun _ => ⟨by omega, by omega⟩))
        apply Trace.pu [] ((Pure.loadRp ty49 (.plain rfl) (fun _ => by rw [Int.toNat_natCast]; exact tk_len hts hlt)).to (y := .d (.agg t.cells)) (by rw [Int.toNat_natCast, tk_take hts, hte]))
        apply Trace.alloc 4 [] (.data _) zo49 (cellsAs_data _) rfl
        apply Trace.storeD (cs' := t.cells) ty49 (.plain rfl) (.plain rfl) rfl rfl (Tk.cells_length hto.len) (cells_one t) (by decide) (spliceL_all (by rw [Tk.cells_length hto.len]; rfl))
        exact .nil _
      · exact keepOK_of hk hn rfl
      apply WPA.seq
      apply WPA.draw mixed
      · apply Trace.pu [] (.move (.plain rfl))
        apply Trace.pu [] (.cmp (.plain rfl) (.plain rfl) rfl)
        apply Trace.pu [] (.move (.plain rfl))
        apply Trace.pg [] rfl (.fieldAddr fl24_0 (.plain rfl) rfl)
        first | apply Trace.pg [_] rfl (.loadLoc1D ty22 (.gd rfl (fun h => h)) rfl rfl) | apply Trace.pg [_] rfl (.loadLoc1 ty22 (.gd rfl (fun h => h)) rfl rfl) | apply Trace.pg [] rfl (.loadRp1 ty22 (.gd rfl (fun h => h)) rfl) | apply Trace.pg [_] rfl (.loadCol1 ty22 (.gd rfl (fun h => h)) rfl rfl rfl (fun _ => by omega))
        apply Trace.pg [] rfl (.move (.plain rfl))
        apply Trace.pg [] rfl (.arith (.gd rfl (fun h => h)) (.plain rfl) rfl (fun _ => bd64 (by omega)))
        apply Trace.pg [] rfl (.indexRows el22 (.gd rfl (fun h => h)) (.gd rfl (fun h => h)) (fun h => by simp at h; omega))
        apply Trace.pg [] rfl (.fieldAddr fl49_0 (.gd rfl (fun h => h)) rfl)
        apply Trace.pg [] rfl ((Pure.loadRp ty27 (.gd rfl (fun h => h)) (fun h => by rw [show ((i : Int) - 1).toNat = i - 1 by omega, List.drop_zero]; have := tk_len hts (i := i - 1) (by omega); omega)).to (y := .d (byD (ts.getD (i - 1) default).d)) (by rw [show ((i : Int) - 1).toNat = i - 1 by omega]; exact row_d hts (by omega)))
        apply Trace.pg [] rfl (.fieldAddr fl49_0 (.plain rfl) rfl)
        apply Trace.pg [_] rfl ((Pure.loadLocD ty27 (.gd rfl (fun h => h)) rfl (fun _ => by rw [Tk.cells_length hto.len]; decide)).to (y := .d (byD t.d)) (by rw [cells_d hto.len]))
        apply Trace.cg rfl (callArgs0 (.cons (.gd rfl (fun h => h)) (.cons (.gd rfl (fun h => h)) .nil))) (fun h => spec36 (ts.getD (i - 1) default).d t.d (hts _ (getD_mem' (by omega))).len hto.len) en36
        apply Trace.pg [] rfl (.not (.gd rfl (fun h => h)))
        apply Trace.pu [] (.pick (.plain rfl) (.gd rfl (by simp)) (.plain rfl))
        apply Trace.pu [] (.move (.plain rfl))
        apply Trace.pg [] rfl (.fieldAddr fl49_1 (.plain rfl) rfl)
        apply Trace.pg [_] rfl (.loadLoc1D ty25 (.gd rfl (fun h => h)) rfl (cells_x hto.len))
        apply Trace.cg rfl (callArgs0 (.cons (.gd rfl (fun h => h)) .nil)) (fun h => spec31 t.xs hto.few) en31
        apply Trace.pg [] rfl (.not (.gd rfl (fun h => h)))
        apply Trace.pu [] (.pick (.plain rfl) (.plain rfl) (.gd rfl (by simp)))
        apply Trace.pu [] (.move (.plain rfl))
        apply Trace.pg [] rfl (.fieldAddr fl49_1 (.plain rfl) rfl)
        apply Trace.pg [_] rfl (.loadLoc1D ty25 (.gd rfl (fun h => h)) rfl (cells_x hto.len))
        apply Trace.cg rfl (callArgs0 (.cons (.gd rfl (fun h => h)) .nil)) (fun h => spec32 t.xs hto.few hto.big) en32
        apply Trace.pg [] rfl (.fieldAddr fl49_0 (.plain rfl) rfl)
        apply Trace.pg [_] rfl ((Pure.loadLocD ty27 (.gd rfl (fun h => h)) rfl (fun _ => by rw [Tk.cells_length hto.len]; decide)).to (y := .d (byD t.d)) (by rw [cells_d hto.len]))
        apply Trace.pg [] rfl (.ane ba27 (.gd rfl (fun h => h)) (.gd rfl (fun h => h)) (fun _ => nmD_length _) (fun _ => hto.len))
        apply Trace.pu [] (.pick (.plain rfl) (.plain rfl) (.gd rfl (by simp)))
        exact .nil _
      · rfl
      · exact keepOK_of hk hn rfl
      refine WPA.cond rfl (fun hc3 => ?_) (fun hc3 => ?_)
      · have hE : chk ts = false := chk_false hlt (by
          unfold okAt
          rw [hte]
          rcases pick_eq hc3 with ⟨h1, _⟩ | ⟨_, h2⟩
          · rcases pick_eq h1 with ⟨h3, _⟩ | ⟨_, h4⟩
            · rcases pick_eq h3 with ⟨h5, h6⟩ | ⟨_, h7⟩
              · have h8 : ¬ i = 0 := by simp at h5; omega
                have h9 : ltL (ts.getD (i - 1) default).d t.d = false := by simpa using h6
                simp only [h8, h9, decide_false, Bool.or_false, Bool.false_and]
              · cases h7
            · have h9 : nmOk t.xs = false := by simpa using h4
              simp only [h9, Bool.false_and, Bool.and_false]
          · have h9 : decide (nmD t.xs = t.d) = false := by simpa using h2
            simp only [h9, Bool.and_false])
        apply WPA.seq
        apply WPA.region
        · apply Trace.pu [] (.assign (.plain rfl))
          exact .nil _
        · exact keepOK_of hk hn rfl
        apply WPA.ret
        refine ⟨.inr rfl, ⟨_, (.cons (.tmp rfl) .nil), ?_⟩, by simp [St.get]⟩
        rw [ckE, hE]; rfl
      · have hok : okAt ts i = true := by
          unfold okAt
          rw [hte]
          rcases pick_ne hc3 with ⟨_, h⟩ | ⟨h1, h2⟩
          · cases h
          · rcases pick_ne h1 with ⟨_, h⟩ | ⟨h3, h4⟩
            · cases h
            · have h5 : nmOk t.xs = true := by simpa using h4
              have h6 : decide (nmD t.xs = t.d) = true := by simpa using h2
              rw [h5, h6]
              rcases pick_ne h3 with ⟨_, h7⟩ | ⟨h7, _⟩
              · have h8 : ltL (ts.getD (i - 1) default).d t.d = true := by simpa using h7
                simp only [h8, Bool.or_true, Bool.and_true]
              · have h8 : i = 0 := by simp at h7; omega
                simp [h8]
        apply WPA.skip
        apply WPA.region
        · apply Trace.pu [] (.move (.plain rfl))
          apply Trace.pu [] (.arith (.plain rfl) (.plain rfl) rfl (fun _ => bd64 (by omega)))
          apply Trace.pu [] (.assign (.plain rfl))
          exact .nil _
        · exact keepOK_of hk hn rfl
        exact ⟨i + 1, ⟨by omega, fun j hj => by
          by_cases h : j = i
          · rw [h]; exact hok
          · exact hi.2 j (by omega)⟩, by omega, St.le_cons rfl (St.le_cons (iv_eq (by omega)) (St.le_cons rfl (St.le_nil _)))⟩
    · have hG : chk ts = true := chk_true fun j hj => hi.2 j (by simp at hc2; omega)
      apply WPA.exit
      apply WPA.seq
      apply WPA.region
      · apply Trace.pu [] (.assign (.plain rfl))
        exact .nil _
      · exact keepOK_of hk hn rfl
      apply WPA.ret
      refine ⟨.inr rfl, ⟨_, (.cons (.tmp rfl) .nil), ?_⟩, by simp [St.get]⟩
      rw [ckE, hG]; rfl

end Go.Proofs.YtmdfamnnnoieaaaDoor


/- soundpostref25: Put, Look, Get. -/
namespace Go.Proofs.YtmdfamnnnoieaaaDoor
open Go
set_option linter.unusedVariables false
set_option linter.unusedSimpArgs false
set_option maxRecDepth 10000
set_option maxHeartbeats 2000000

theorem mk_take {d : List Int} {xs : List Int} (h : d.length = 32) : mkAgg (spliceL (spliceL (vals [.int .u8 0, .int .u8 0, .int .u8 0, .int .u8 0, .int .u8 0, .int .u8 0, .int .u8 0, .int .u8 0, .int .u8 0, .int .u8 0, .int .u8 0, .int .u8 0, .int .u8 0, .int .u8 0, .int .u8 0, .int .u8 0, .int .u8 0, .int .u8 0, .int .u8 0, .int .u8 0, .int .u8 0, .int .u8 0, .int .u8 0, .int .u8 0, .int .u8 0, .int .u8 0, .int .u8 0, .int .u8 0, .int .u8 0, .int .u8 0, .int .u8 0, .int .u8 0, .slice none 0 0]) 0 ((d.map fun x => D.v (.int .u8 x)).map .d)) 32 [.d (intsD xs)]) = .d (.agg (Tk.cells ⟨d, xs⟩)) := by
  rw [fill33 (by simpa using h) rfl, mkAgg_cells]
/-- soundpost/soundpostref25.Put -/
theorem spec12 (ts : List Tk) (hts : ∀ t ∈ ts, t.Ok) (hn1 : ts.length ≤ 1000) (xs : List Int) (hx : xs.length ≤ 1000) (hb : ∀ x ∈ xs, -9223372036854775808 ≤ x ∧ x ≤ 9223372036854775807) : FnSpec Tryd.prog 12 [.d (poolD ts), .d (intsD xs)] [] (.tup ([poolD (putE ts xs).1, byD (putE ts xs).2.1, .v (.int .i64 (putE ts xs).2.2)].map .d)) [] [] := by
  refine fnSpec_of (rs := [.cell 4 24, .cell 5 27, .tmp 6]) Tryd.func12 rfl rfl (Nat.le_of_ble_eq_true rfl) (by simp [St.get]) fun E hk hn => ?_
  apply WPA.seq
  apply WPA.region
  · apply Trace.boxD 2 [] (.plain rfl) rfl rfl
    apply Trace.alloc 4 [] (.data _) zo24 (cellsAs_data _) rfl
    apply Trace.alloc 5 [] (.data (List.replicate 32 (D.v (.int .u8 0)))) zo27 (cellsAs_data _) rfl
    apply Trace.pu [] (.assign (.plain rfl))
    exact .nil _
  · exact keepOK_of hk hn rfl
  apply WPA.seq
  apply WPA.seq
  apply WPA.region
  · apply Trace.pu [_] (.loadAllD ty24 (.plain rfl) rfl rfl)
    apply Trace.cu (callArgs0 (.cons (.plain rfl) .nil)) (spec20 ts hts hn1) en20
    apply Trace.pu [] (.cmp (.plain rfl) (.plain rfl) rfl)
    apply Trace.pu [] (.move (.plain rfl))
    apply Trace.pg [] rfl (.move (.plain rfl))
    apply Trace.cg rfl (callArgs0 (.cons (.gd rfl (fun h => h)) .nil)) (fun h => spec31 xs hx) en31
    apply Trace.pg [] rfl (.not (.gd rfl (fun h => h)))
    apply Trace.pu [] (.pick (.plain rfl) (.plain rfl) (.gd rfl (by simp)))
    exact .nil _
  · exact keepOK_of hk hn rfl
  refine WPA.cond rfl (fun hc1 => ?_) (fun hc1 => ?_)
  · have hE : (nmOk xs && chk ts) = false := by
      cases ho : nmOk xs with
      | false => rfl
      | true =>
        cases h : chk ts with
        | false => rfl
        | true => simp [ckE, h, ho] at hc1
    apply WPA.seq
    apply WPA.region
    · apply Trace.pu [] (.build zo24 pl24 (.nil _ _) rfl)
      apply Trace.pu [] (.build zo27 pl27 (.nil _ _) rfl)
      apply Trace.storeD ty24 (.plain rfl) (.plain rfl) rfl rfl rfl (by simp [AV.oneB, single]) (by decide) rfl
      apply Trace.storeD (cs' := List.replicate 32 (D.v (.int .u8 0))) ty27 (.plain rfl) (.plain rfl) rfl rfl rfl (by simp [AV.oneB, single]) (by decide) (spliceL_all (by rfl))
      apply Trace.pu [] (.assign (.plain rfl))
      exact .nil _
    · exact keepOK_of hk hn rfl
    refine WPA.ghost (Ghost.dataLe (l := 4) (ds' := [tksD []]) rfl (.rows .nil)) ?_
    apply WPA.ret
    refine ⟨.inr rfl, ⟨_, (.cons (.cellD rfl rfl ty24 rfl) (.cons (.cellD rfl rfl ty27 rfl) (.cons (.tmp rfl) .nil))), ?_⟩, by simp [St.get]⟩
    simp only [putE, hE, Bool.false_eq_true, if_false]
    rfl
  · have hC : nmOk xs = true ∧ chk ts = true := by
      cases ho : nmOk xs with
      | false => simp [ho] at hc1
      | true =>
        cases h : chk ts with
        | true => exact ⟨rfl, rfl⟩
        | false => simp [ckE, h] at hc1
    obtain ⟨hO, hC⟩ := hC
    have hS := chk_srt hC
    have hTo : (⟨nmD xs, xs⟩ : Tk).Ok := ⟨nmD_length xs, nmD_byt xs, hb, hx⟩
    have hFM := fdR_met (k := nmD xs) hS
    apply WPA.skip
    apply WPA.seq
    apply WPA.region
    · apply Trace.pu [] (.move (.plain rfl))
      apply Trace.cu (callArgs0 (.cons (.plain rfl) .nil)) (spec32 xs hx hb) en32
      apply Trace.alloc 7 [] (.data (List.replicate 32 (D.v (.int .u8 0)))) zo27 (cellsAs_data _) rfl
      apply Trace.storeD (cs' := ((nmD xs).map fun x => D.v (.int .u8 x))) ty27 (.plain rfl) (.plain rfl) rfl rfl (by simp [nmD_length]) (by_one _) (by decide) (spliceL_all (by simp [nmD_length]))
      exact .nil _
    · exact keepOK_of hk hn rfl
    apply WPA.seq
    apply WPA.seq
    apply WPA.region
    · apply Trace.pu [_] (.loadAllD ty24 (.plain rfl) rfl rfl)
      apply Trace.pu [_] (.loadAllD ty27 (.plain rfl) rfl (by simp [nmD_length]))
      apply Trace.cu (callArgs0 (.cons (.plain rfl) (.cons (.plain rfl) .nil))) (spec33 ts hts hn1 (nmD xs) (nmD_length xs)) en33
      apply Trace.pu [] (.cmp (.plain rfl) (.plain rfl) rfl)
      exact .nil _
    · exact keepOK_of hk hn rfl
    refine WPA.cond rfl (fun hc2 => ?_) (fun hc2 => ?_)
    · have hM : metOf ts (nmD xs) = true := hFM.1 (by simp at hc2; omega)
      apply WPA.seq
      apply WPA.draw mixed
      · apply Trace.pu [_] (.loadAllD ty24 (.plain rfl) rfl rfl)
        apply Trace.pu [_] (.loadAllD ty27 (.plain rfl) rfl (by simp [nmD_length]))
        apply Trace.storeD ty24 (.plain rfl) (.plain rfl) rfl rfl rfl (by simp [AV.oneB, single]) (by decide) rfl
        apply Trace.storeD (cs' := ((nmD xs).map fun x => D.v (.int .u8 x))) ty27 (.plain rfl) (.plain rfl) rfl rfl (by simp [nmD_length]) (by_one _) (by decide) (spliceL_all (by simp [nmD_length]))
        apply Trace.pu [] (.assign (.plain rfl))
        exact .nil _
      · rfl
      · exact keepOK_of hk hn rfl
      apply WPA.ret
      refine ⟨.inr rfl, ⟨_, (.cons (.cellD rfl rfl ty24 rfl) (.cons (.cellD rfl rfl ty27 (by simp [nmD_length])) (.cons (.tmp rfl) .nil))), ?_⟩, by simp [St.get]⟩
      simp only [putE, hO, hC, hM, Bool.and_self, if_true]
      rfl
    · have hM : metOf ts (nmD xs) = false := by
        cases h : metOf ts (nmD xs) with
        | false => rfl
        | true => have := hFM.2 h; simp at hc2; omega
      apply WPA.skip
      apply WPA.seq
      apply WPA.seq
      apply WPA.region
      · apply Trace.pu [] (.fieldAddr fl24_0 (.plain rfl) rfl)
        first | apply Trace.pu [_] (.loadLoc1D ty22 (.plain rfl) rfl rfl) | apply Trace.pu [_] (.loadLoc1 ty22 (.plain rfl) rfl rfl) | apply Trace.pu [] (.loadRp1 ty22 (.plain rfl) rfl) | apply Trace.pu [_] (.loadCol1 ty22 (.plain rfl) rfl rfl rfl (fun _ => by omega))
        apply Trace.pu [] (.len rfl Tryd.underlying22 (.plain rfl) rfl)
        apply Trace.pu [] (.cmp (.plain rfl) (.plain rfl) rfl)
        exact .nil _
      · exact keepOK_of hk hn rfl
      refine WPA.cond rfl (fun hc3 => ?_) (fun hc3 => ?_)
      · simp at hc3; omega
      · apply WPA.skip
        apply WPA.seq
        apply WPA.draw mixed
        · apply Trace.pu [] (.fieldAddr fl24_0 (.plain rfl) rfl)
          first | apply Trace.pu [_] (.loadLoc1D ty22 (.plain rfl) rfl rfl) | apply Trace.pu [_] (.loadLoc1 ty22 (.plain rfl) rfl rfl) | apply Trace.pu [] (.loadRp1 ty22 (.plain rfl) rfl) | apply Trace.pu [_] (.loadCol1 ty22 (.plain rfl) rfl rfl rfl (fun _ => by omega))
          apply Trace.pu [_] (.loadAllD ty27 (.plain rfl) rfl (by simp [nmD_length]))
          apply Trace.pu [] (.move (.plain rfl))
          apply Trace.pu [] ((Pure.build zo49 pl49 (.cons (u := .d (byD (nmD xs))) (us := ((nmD xs).map fun x => D.v (.int .u8 x)).map .d) (.plain rfl) rfl (off := 0) (by show some (0, 32) = _; simp [nmD_length]) (by simp [nmD_length, vals]) (.cons (.plain rfl) rfl (off := 32) rfl (by rw [spliceL_length (by simp [nmD_length, vals])]; exact Nat.le_of_ble_eq_true rfl) (.nil _ _))) rfl).to (y := .d (.agg (Tk.cells ⟨nmD xs, xs⟩))) (mk_take (nmD_length xs)))
          apply Trace.cu (callArgs0 (.cons (.plain rfl) (.cons (.plain rfl) .nil))) (insF ts hts hn1 ⟨nmD xs, xs⟩ hTo) en34
          apply Trace.pu [] (.build zo24 pl24 (.cons (.plain rfl) rfl rfl (Nat.le_of_ble_eq_true rfl) (.nil _ _)) rfl)
          apply Trace.pu [_] (.loadAllD ty27 (.plain rfl) rfl (by simp [nmD_length]))
          apply Trace.storeD ty24 (.plain rfl) (.plain rfl) rfl rfl rfl (by simp [AV.oneB, single]) (by decide) rfl
          apply Trace.storeD (cs' := ((nmD xs).map fun x => D.v (.int .u8 x))) ty27 (.plain rfl) (.plain rfl) rfl rfl (by simp [nmD_length]) (by_one _) (by decide) (spliceL_all (by simp [nmD_length]))
          apply Trace.pu [] (.assign (.plain rfl))
          exact .nil _
        · rfl
        · exact keepOK_of hk hn rfl
        apply WPA.ret
        refine ⟨.inr rfl, ⟨_, (.cons (.cellD rfl rfl ty24 rfl) (.cons (.cellD rfl rfl ty27 (by simp [nmD_length])) (.cons (.tmp rfl) .nil))), ?_⟩, by simp [St.get]⟩
        simp only [putE, hO, hC, hM, Bool.and_self, if_true, Bool.false_eq_true, if_false]
        rfl
/-- soundpost/soundpostref25.Look -/
theorem spec16 (ts : List Tk) (hts : ∀ t ∈ ts, t.Ok) (hn1 : ts.length ≤ 1000) (k : List Int) (hkl : k.length = 32) : FnSpec Tryd.prog 16 [.d (poolD ts), .d (byD k)] [] (.tup ([intsD (lookE ts k).1, .v (.bool (lookE ts k).2)].map .d)) [] [] := by
  refine fnSpec_of (rs := [.tmp 4, .tmp 5]) Tryd.func16 rfl rfl (Nat.le_of_ble_eq_true rfl) (by simp [St.get]) fun E hk hn => ?_
  apply WPA.seq
  apply WPA.region
  · apply Trace.boxD 2 [] (.plain rfl) rfl rfl
    apply Trace.boxD 3 [] (.plain rfl) rfl rfl
    apply Trace.pu [] (.assign (.plain rfl))
    apply Trace.pu [] (.assign (.plain rfl))
    exact .nil _
  · exact keepOK_of hk hn rfl
  apply WPA.seq
  apply WPA.region
  · apply Trace.pu [_] (.loadAllD ty24 (.plain rfl) rfl rfl)
    apply Trace.pu [_] (.loadAllD ty27 (.plain rfl) rfl (by simp [hkl]))
    apply Trace.cu (callArgs0 (.cons (.plain rfl) (.cons (.plain rfl) .nil))) (spec33 ts hts hn1 k hkl) en33
    apply Trace.pu [] (.assign (.plain rfl))
    exact .nil _
  · exact keepOK_of hk hn rfl
  apply WPA.seq
  apply WPA.seq
  apply WPA.region
  · apply Trace.pu [] (.move (.plain rfl))
    apply Trace.pu [] (.cmp (.plain rfl) (.plain rfl) rfl)
    exact .nil _
  · exact keepOK_of hk hn rfl
  refine WPA.cond rfl (fun hc1 => ?_) (fun hc1 => ?_)
  · have hN : lookE ts k = ([], false) := by
      rcases fdR_cases ts k with ⟨_, h, _⟩ | ⟨i, _, h, _⟩
      · exact h
      · rw [h] at hc1; simp at hc1; omega
    apply WPA.seq
    apply WPA.region
    · apply Trace.pu [] (.assign (.plain rfl))
      apply Trace.pu [] (.assign (.plain rfl))
      exact .nil _
    · exact keepOK_of hk hn rfl
    refine WPA.ghost (Ghost.slot (t := 4) (y := .d (intsD [])) rfl den_nilRows) ?_
    apply WPA.ret
    refine ⟨.inr rfl, ⟨_, (.cons (.tmp rfl) (.cons (.tmp rfl) .nil)), ?_⟩, by simp [St.get]⟩
    rw [hN]; rfl
  · obtain ⟨i, hlt, hF, hL, _⟩ : ∃ i : Nat, i < ts.length ∧ fdR ts k = (i : Int) ∧ lookE ts k = ((ts.getD i default).xs, true) ∧ (ts.getD i default).d = k := by
      rcases fdR_cases ts k with ⟨h, _⟩ | h
      · rw [h] at hc1; simp at hc1
      · exact h
    rw [hF, hL]
    apply WPA.skip
    apply WPA.seq
    apply WPA.region
    · apply Trace.pu [] (.fieldAddr fl24_0 (.plain rfl) rfl)
      first | apply Trace.pu [_] (.loadLoc1D ty22 (.plain rfl) rfl rfl) | apply Trace.pu [_] (.loadLoc1 ty22 (.plain rfl) rfl rfl) | apply Trace.pu [] (.loadRp1 ty22 (.plain rfl) rfl) | apply Trace.pu [_] (.loadCol1 ty22 (.plain rfl) rfl rfl rfl (fun _ => by omega))
      apply Trace.pu [] (.move (.plain rfl))
      first | apply Trace.pu [] (.indexRows el22 (.plain rfl) (.plain rfl) (fun _ => ⟨by omega, by omega⟩)) | apply Trace.pu [] (.indexOwn el22 (.plain rfl) (.plain rfl) (fun _ => ⟨by omega, by omega⟩)) | apply Trace.pu [] (.indexSl el22 (.plain rfl) (.plain rfl) (fun _ => ⟨by omega, by omega⟩)) | apply Trace.pu [] (.indexSa el22 (.plain rfl) (.plain rfl) (fun _ => ⟨by omega, by omega⟩))
      apply Trace.pu [] (.fieldAddr fl49_1 (.plain rfl) rfl)
      apply Trace.pu [] (.loadRp1 ty25 (.plain rfl) (by rw [Int.toNat_natCast]; exact row_x hts hlt))
      apply Trace.pu [] (.assign (.plain rfl))
      apply Trace.pu [] (.assign (.plain rfl))
      exact .nil _
    · exact keepOK_of hk hn rfl
    apply WPA.ret
    refine ⟨.inr rfl, ⟨_, (.cons (.tmp rfl) (.cons (.tmp rfl) .nil)), ?_⟩, by simp [St.get]⟩
    rfl
/-- soundpost/soundpostref25.Get -/
theorem spec14 (ts : List Tk) (hts : ∀ t ∈ ts, t.Ok) (hn1 : ts.length ≤ 1000) (k : List Int) (hkl : k.length = 32) : FnSpec Tryd.prog 14 [.d (poolD ts), .d (byD k)] [] (.tup ([intsD (getE ts k).1, .v (.int .i64 (getE ts k).2)].map .d)) [] [] := by
  refine fnSpec_of (rs := [.tmp 4, .tmp 5]) Tryd.func14 rfl rfl (Nat.le_of_ble_eq_true rfl) (by simp [St.get]) fun E hk hn => ?_
  apply WPA.seq
  apply WPA.region
  · apply Trace.boxD 2 [] (.plain rfl) rfl rfl
    apply Trace.boxD 3 [] (.plain rfl) rfl rfl
    apply Trace.pu [] (.assign (.plain rfl))
    apply Trace.pu [] (.assign (.plain rfl))
    exact .nil _
  · exact keepOK_of hk hn rfl
  apply WPA.seq
  apply WPA.seq
  apply WPA.region
  · apply Trace.pu [_] (.loadAllD ty24 (.plain rfl) rfl rfl)
    apply Trace.cu (callArgs0 (.cons (.plain rfl) .nil)) (spec20 ts hts hn1) en20
    apply Trace.pu [] (.cmp (.plain rfl) (.plain rfl) rfl)
    exact .nil _
  · exact keepOK_of hk hn rfl
  refine WPA.cond rfl (fun hc1 => ?_) (fun hc1 => ?_)
  · have hE : chk ts = false := by
      cases h : chk ts with
      | false => rfl
      | true => simp [ckE, h] at hc1
    apply WPA.seq
    apply WPA.region
    · apply Trace.pu [] (.assign (.plain rfl))
      apply Trace.pu [] (.assign (.plain rfl))
      exact .nil _
    · exact keepOK_of hk hn rfl
    refine WPA.ghost (Ghost.slot (t := 4) (y := .d (intsD [])) rfl den_nilRows) ?_
    apply WPA.ret
    refine ⟨.inr rfl, ⟨_, (.cons (.tmp rfl) (.cons (.tmp rfl) .nil)), ?_⟩, by simp [St.get]⟩
    simp [getE, hE, resOf, D.ofV]
  · have hC : chk ts = true := by
      cases h : chk ts with
      | true => rfl
      | false => simp [ckE, h] at hc1
    have hG := getE_look (k := k) hC
    rw [hG]
    apply WPA.skip
    apply WPA.seq
    apply WPA.region
    · apply Trace.pu [_] (.loadAllD ty24 (.plain rfl) rfl rfl)
      apply Trace.pu [_] (.loadAllD ty27 (.plain rfl) rfl (by simp [hkl]))
      apply Trace.ct (callArgs0 (.cons (.plain rfl) (.cons (.plain rfl) .nil))) (spec16 ts hts hn1 k hkl) en16
      apply Trace.pu [] (.move (.plain rfl))
      apply Trace.pu [] (.extract (.plain rfl) rfl)
      apply Trace.pu [] (.extract (.plain rfl) rfl)
      apply Trace.pu [] (.assign (.plain rfl))
      apply Trace.pu [] (.assign (.plain rfl))
      exact .nil _
    · exact keepOK_of hk hn rfl
    apply WPA.seq
    apply WPA.seq
    apply WPA.region
    · apply Trace.pu [] (.move (.plain rfl))
      apply Trace.pu [] (.not (.plain rfl))
      exact .nil _
    · exact keepOK_of hk hn rfl
    refine WPA.cond rfl (fun hc2 => ?_) (fun hc2 => ?_)
    · have hN : lookE ts k = ([], false) := by
        rcases fdR_cases ts k with ⟨_, h, _⟩ | ⟨i, _, _, h, _⟩
        · exact h
        · rw [h] at hc2; simp at hc2
      apply WPA.seq
      apply WPA.region
      · apply Trace.pu [] (.assign (.plain rfl))
        apply Trace.pu [] (.assign (.plain rfl))
        exact .nil _
      · exact keepOK_of hk hn rfl
      refine WPA.ghost (Ghost.slot (t := 4) (y := .d (intsD [])) rfl den_nilRows) ?_
      apply WPA.ret
      refine ⟨.inr rfl, ⟨_, (.cons (.tmp rfl) (.cons (.tmp rfl) .nil)), ?_⟩, by simp [St.get]⟩
      rw [hN]; rfl
    · have hN : (lookE ts k).2 = true := by simpa using hc2
      apply WPA.skip
      apply WPA.seq
      apply WPA.region
      · apply Trace.pu [] (.move (.plain rfl))
        apply Trace.pu [] (.assign (.plain rfl))
        apply Trace.pu [] (.assign (.plain rfl))
        exact .nil _
      · exact keepOK_of hk hn rfl
      apply WPA.ret
      refine ⟨.inr rfl, ⟨_, (.cons (.tmp rfl) (.cons (.tmp rfl) .nil)), ?_⟩, by simp [St.get]⟩
      rw [hN]; rfl

end Go.Proofs.YtmdfamnnnoieaaaDoor


/- Pools in order: membership, merging, inserting, looking. No program in sight. -/
namespace Go.Proofs.YtmdfamnnnoieaaaDoor
open Go
set_option linter.unusedVariables false
set_option linter.unusedSimpArgs false

abbrev SrtP (ts : List Tk) : Prop := ts.Pairwise fun s t => ltL s.d t.d = true
theorem getD_tk {ts : List Tk} {i : Nat} (h : i < ts.length) : ts.getD i default = ts[i] := by rw [List.getD_eq_getElem?_getD, List.getElem?_eq_getElem h]; rfl
theorem srt_pair {ts : List Tk} : Srt ts ↔ SrtP ts := by
  rw [SrtP, List.pairwise_iff_getElem]
  constructor
  · intro h i j hi hj hij
    have := h i j hij hj
    rwa [getD_tk hi, getD_tk hj] at this
  · intro h i j hij hj
    rw [getD_tk (show i < ts.length by omega), getD_tk hj]
    exact h i j _ hj hij
theorem lt_ne {a b : List Int} (h : ltL a b = true) : a ≠ b := fun e => by rw [e, ltL_irrefl] at h; cases h
theorem lt_ne' {a b : List Int} (h : ltL a b = true) : b ≠ a := fun e => lt_ne h e.symm
theorem srtP_ext : ∀ {a b : List Tk}, SrtP a → SrtP b → (∀ t, t ∈ a ↔ t ∈ b) → a = b
  | [], [], _, _, _ => rfl
  | [], y :: b, _, _, h => absurd ((h y).2 (by simp)) (by simp)
  | x :: a, [], _, _, h => absurd ((h x).1 (by simp)) (by simp)
  | x :: a, y :: b, ha, hb, h => by
    have ha' := List.pairwise_cons.1 ha
    have hb' := List.pairwise_cons.1 hb
    have hxy : x = y := by
      rcases List.mem_cons.1 ((h x).1 (by simp)) with h1 | h1
      · exact h1
      · rcases List.mem_cons.1 ((h y).2 (by simp)) with h2 | h2
        · exact h2.symm
        · have := ltL_asymm (ha'.1 y h2)
          rw [hb'.1 x h1] at this
          cases this
    subst hxy
    congr 1
    refine srtP_ext ha'.2 hb'.2 fun t => ⟨fun ht => ?_, fun ht => ?_⟩
    · rcases List.mem_cons.1 ((h t).1 (by simp [ht])) with h1 | h1
      · exact absurd (congrArg Tk.d h1).symm (lt_ne (ha'.1 t ht))
      · exact h1
    · rcases List.mem_cons.1 ((h t).2 (by simp [ht])) with h1 | h1
      · exact absurd (congrArg Tk.d h1).symm (lt_ne (hb'.1 t ht))
      · exact h1
theorem srtP_inj {ts : List Tk} (hs : SrtP ts) {s t : Tk} (h1 : s ∈ ts) (h2 : t ∈ ts) (h : s.d = t.d) : s = t := by
  obtain ⟨i, hi, rfl⟩ := List.getElem_of_mem h1
  obtain ⟨j, hj, rfl⟩ := List.getElem_of_mem h2
  have := srt_inj (srt_pair.2 hs) hi hj (by rw [getD_tk hi, getD_tk hj]; exact h)
  subst this
  rfl

/-- Merging. -/
theorem mrg_spec (a b : List Tk) : SrtP a → SrtP b → SrtP (mrg a b) ∧ ∀ t, t ∈ mrg a b ↔ t ∈ a ∨ (t ∈ b ∧ ∀ s ∈ a, s.d ≠ t.d) := by
  refine mrg_ind (p := fun a b => SrtP a → SrtP b → SrtP (mrg a b) ∧ ∀ t, t ∈ mrg a b ↔ t ∈ a ∨ (t ∈ b ∧ ∀ s ∈ a, s.d ≠ t.d)) (fun a b h ha hb => ?_) (fun a b t a' b' h ih ha hb => ?_) _ a b (Nat.le_refl _)
  · rw [mrg_none h]
    cases a with
    | cons x xs => cases b <;> simp [mstep] at h; (split at h <;> (try split at h) <;> cases h)
    | nil =>
      cases b with
      | cons y ys => simp [mstep] at h
      | nil => exact ⟨List.Pairwise.nil, fun t => by simp⟩
  · rw [mrg_some h]
    cases a with
    | nil =>
      cases b with
      | nil => simp [mstep] at h
      | cons y ys =>
        simp [mstep] at h
        obtain ⟨rfl, rfl, rfl⟩ := h
        have hb' := List.pairwise_cons.1 hb
        obtain ⟨i1, i2⟩ := ih ha hb'.2
        refine ⟨List.pairwise_cons.2 ⟨fun s hs => ?_, i1⟩, fun s => ?_⟩
        · have := (i2 s).1 hs
          simp at this
          exact hb'.1 s this
        · rw [List.mem_cons, i2]
          simp
    | cons x xs =>
      have ha' := List.pairwise_cons.1 ha
      cases b with
      | nil =>
        simp [mstep] at h
        obtain ⟨rfl, rfl, rfl⟩ := h
        obtain ⟨i1, i2⟩ := ih ha'.2 hb
        refine ⟨List.pairwise_cons.2 ⟨fun s hs => ?_, i1⟩, fun s => ?_⟩
        · have := (i2 s).1 hs
          simp at this
          exact ha'.1 s this
        · rw [List.mem_cons, i2]
          simp
      | cons y ys =>
        have hb' := List.pairwise_cons.1 hb
        simp only [mstep] at h
        by_cases h1 : ltL x.d y.d = true
        · rw [if_pos h1] at h
          injection h with h; injection h with e1 h; injection h with e2 e3
          subst e1; subst e2; subst e3
          obtain ⟨i1, i2⟩ := ih ha'.2 hb
          have hlt : ∀ s ∈ y :: ys, ltL x.d s.d = true := fun s hs => by
            rcases List.mem_cons.1 hs with rfl | hs
            · exact h1
            · exact ltL_trans h1 (hb'.1 s hs)
          refine ⟨List.pairwise_cons.2 ⟨fun s hs => ?_, i1⟩, fun s => ?_⟩
          · rcases (i2 s).1 hs with h2 | ⟨h2, _⟩
            · exact ha'.1 s h2
            · exact hlt s h2
          · rw [List.mem_cons, i2]
            constructor
            · rintro (rfl | h2 | ⟨h2, h3⟩)
              · exact .inl (by simp)
              · exact .inl (by simp [h2])
              · refine .inr ⟨h2, fun z hz => ?_⟩
                rcases List.mem_cons.1 hz with rfl | hz
                · exact lt_ne (hlt s h2)
                · exact h3 z hz
            · rintro (h2 | ⟨h2, h3⟩)
              · rcases List.mem_cons.1 h2 with rfl | h2
                · exact .inl rfl
                · exact .inr (.inl h2)
              · exact .inr (.inr ⟨h2, fun z hz => h3 z (by simp [hz])⟩)
        · rw [if_neg h1] at h
          by_cases h2 : ltL y.d x.d = true
          · rw [if_pos h2] at h
            injection h with h; injection h with e1 h; injection h with e2 e3
            subst e1; subst e2; subst e3
            obtain ⟨i1, i2⟩ := ih ha hb'.2
            have hlt : ∀ s ∈ x :: xs, ltL y.d s.d = true := fun s hs => by
              rcases List.mem_cons.1 hs with rfl | hs
              · exact h2
              · exact ltL_trans h2 (ha'.1 s hs)
            refine ⟨List.pairwise_cons.2 ⟨fun s hs => ?_, i1⟩, fun s => ?_⟩
            · rcases (i2 s).1 hs with h3 | ⟨h3, _⟩
              · exact hlt s h3
              · exact hb'.1 s h3
            · rw [List.mem_cons, i2]
              constructor
              · rintro (rfl | h3 | ⟨h3, h4⟩)
                · exact .inr ⟨by simp, fun z hz => lt_ne' (hlt z hz)⟩
                · exact .inl h3
                · exact .inr ⟨by simp [h3], h4⟩
              · rintro (h3 | ⟨h3, h4⟩)
                · exact .inr (.inl h3)
                · rcases List.mem_cons.1 h3 with rfl | h3
                  · exact .inl rfl
                  · exact .inr (.inr ⟨h3, h4⟩)
          · rw [if_neg h2] at h
            injection h with h; injection h with e1 h; injection h with e2 e3
            subst e1; subst e2; subst e3
            have hxy : x.d = y.d := ltL_total (by simpa using h1) (by simpa using h2)
            obtain ⟨i1, i2⟩ := ih ha'.2 hb'.2
            refine ⟨List.pairwise_cons.2 ⟨fun s hs => ?_, i1⟩, fun s => ?_⟩
            · rcases (i2 s).1 hs with h3 | ⟨h3, _⟩
              · exact ha'.1 s h3
              · rw [hxy]; exact hb'.1 s h3
            · rw [List.mem_cons, i2]
              constructor
              · rintro (rfl | h3 | ⟨h3, h4⟩)
                · exact .inl (by simp)
                · exact .inl (by simp [h3])
                · refine .inr ⟨by simp [h3], fun z hz => ?_⟩
                  rcases List.mem_cons.1 hz with rfl | hz
                  · rw [hxy]; exact lt_ne (hb'.1 s h3)
                  · exact h4 z hz
              · rintro (h3 | ⟨h3, h4⟩)
                · rcases List.mem_cons.1 h3 with rfl | h3
                  · exact .inl rfl
                  · exact .inr (.inl h3)
                · rcases List.mem_cons.1 h3 with rfl | h3
                  · exact absurd hxy (h4 x (by simp))
                  · exact .inr (.inr ⟨h3, fun z hz => h4 z (by simp [hz])⟩)

/-- Inserting. -/
theorem insE_srt {ts : List Tk} {t : Tk} (hs : SrtP ts) (hn : ∀ s ∈ ts, s.d ≠ t.d) : SrtP (insE ts t) := by
  have hle := atOf_le ts t.d
  have hS := srt_pair.2 hs
  have h1 : ∀ s ∈ ts.take (atOf ts t.d), ltL s.d t.d = true := fun s h => by
    obtain ⟨j, hj, rfl⟩ := List.getElem_of_mem h
    have hj' := hj
    rw [List.length_take] at hj'
    have := (at_iff hS (k := t.d) (show j < ts.length by omega)).2 (by omega)
    rw [getD_tk (by omega)] at this
    rwa [List.getElem_take]
  have h2 : ∀ s ∈ ts.drop (atOf ts t.d), ltL t.d s.d = true := fun s h => by
    obtain ⟨j, hj, rfl⟩ := List.getElem_of_mem h
    have hj' := hj
    rw [List.length_drop] at hj'
    have h3 : ¬ ltL (ts.getD (atOf ts t.d + j) default).d t.d = true := fun h => by
      have := (at_iff hS (k := t.d) (show atOf ts t.d + j < ts.length by omega)).1 h
      omega
    rw [getD_tk (by omega)] at h3
    rw [List.getElem_drop]
    cases hl : ltL t.d ts[atOf ts t.d + j].d with
    | true => rfl
    | false => exact absurd (ltL_total (by simpa using h3) hl) (hn _ (List.getElem_mem _))
  unfold insE
  rw [SrtP, List.append_assoc, List.pairwise_append]
  refine ⟨hs.sublist (List.take_sublist _ _), ?_, fun a ha b hb => ?_⟩
  · rw [List.singleton_append, List.pairwise_cons]
    exact ⟨h2, hs.sublist (List.drop_sublist _ _)⟩
  · rcases List.mem_append.1 hb with hb | hb
    · rw [List.mem_singleton] at hb
      rw [hb]
      exact h1 a ha
    · exact ltL_trans (h1 a ha) (h2 b hb)
/-- What Check asks. -/
theorem chk_iff {ts : List Tk} : chk ts = true ↔ SrtP ts ∧ ∀ t ∈ ts, nmOk t.xs = true ∧ nmD t.xs = t.d := by
  constructor
  · intro h
    refine ⟨srt_pair.1 (chk_srt h), fun t ht => ?_⟩
    obtain ⟨j, hj, rfl⟩ := List.getElem_of_mem ht
    have := chk_at h hj
    unfold okAt at this
    rw [getD_tk hj, Bool.and_eq_true, Bool.and_eq_true, decide_eq_true_eq] at this
    exact this.2
  · rintro ⟨h1, h2⟩
    refine chk_true fun i hi => ?_
    have h3 := h2 ts[i] (List.getElem_mem hi)
    unfold okAt
    rw [getD_tk hi, h3.1, h3.2]
    simp only [decide_true, Bool.and_true, Bool.or_eq_true, decide_eq_true_eq]
    by_cases h0 : i = 0
    · exact .inl h0
    · right
      rw [getD_tk (show i - 1 < ts.length by omega)]
      exact List.pairwise_iff_getElem.1 h1 (i - 1) i (by omega) hi (by omega)
theorem met_mem {ts : List Tk} {k : List Int} (hs : SrtP ts) : metOf ts k = true ↔ ∃ t ∈ ts, t.d = k := by
  rw [met_iff (srt_pair.2 hs)]
  constructor
  · rintro ⟨j, hj, e⟩
    exact ⟨ts[j], List.getElem_mem hj, by rwa [getD_tk hj] at e⟩
  · rintro ⟨t, ht, e⟩
    obtain ⟨j, hj, rfl⟩ := List.getElem_of_mem ht
    exact ⟨j, hj, by rw [getD_tk hj]; exact e⟩
theorem look_mem {ts : List Tk} (hs : SrtP ts) {t : Tk} (h : t ∈ ts) : lookE ts t.d = (t.xs, true) := by
  rcases fdR_cases ts t.d with ⟨_, _, h2⟩ | ⟨i, hi, _, h2, h3⟩
  · obtain ⟨j, hj, rfl⟩ := List.getElem_of_mem h
    exact absurd (by rw [getD_tk hj]) (h2 j hj)
  · rw [h2]
    rw [getD_tk hi] at h3 ⊢
    rw [srtP_inj hs (List.getElem_mem hi) h h3]
theorem look_no {ts : List Tk} {k : List Int} (h : ∀ t ∈ ts, t.d ≠ k) : lookE ts k = ([], false) := by
  rcases fdR_cases ts k with ⟨_, h1, _⟩ | ⟨i, hi, _, _, h3⟩
  · exact h1
  · rw [getD_tk hi] at h3
    exact absurd h3 (h _ (List.getElem_mem hi))
theorem look_cases (ts : List Tk) (k : List Int) : (lookE ts k = ([], false) ∧ ∀ t ∈ ts, t.d ≠ k) ∨ ∃ t ∈ ts, t.d = k ∧ lookE ts k = (t.xs, true) := by
  rcases fdR_cases ts k with ⟨_, h1, h2⟩ | ⟨i, hi, _, h2, h3⟩
  · refine .inl ⟨h1, fun t ht e => ?_⟩
    obtain ⟨j, hj, rfl⟩ := List.getElem_of_mem ht
    exact h2 j hj (by rw [getD_tk hj]; exact e)
  · rw [getD_tk hi] at h2 h3
    exact .inr ⟨ts[i], List.getElem_mem hi, h3, h2⟩

/-- The reference's merging. -/
def mrgTo (a b : List Tk) : Nat → List Tk
  | 0 => a
  | i + 1 => if fdR a (b.getD i default).d < 0 then insE (mrgTo a b i) (b.getD i default) else mrgTo a b i
theorem mrgTo_mem {a b : List Tk} : ∀ {i : Nat}, i ≤ b.length → ∀ t ∈ mrgTo a b i, t ∈ a ∨ t ∈ b
  | 0, _, t, h => .inl h
  | i + 1, hi, t, h => by
    simp only [mrgTo] at h
    split at h
    · rcases insE_mem.1 h with h | h
      · exact mrgTo_mem (by omega) t h
      · rw [getD_tk (by omega)] at h
        rw [h]
        exact .inr (List.getElem_mem _)
    · exact mrgTo_mem (by omega) t h
theorem mrgTo_len (a b : List Tk) (i : Nat) : (mrgTo a b i).length ≤ a.length + i := by
  induction i with
  | zero => simp [mrgTo]
  | succ i ih =>
    simp only [mrgTo]
    split
    · rw [insE_length]; omega
    · omega
theorem fdR_neg {ts : List Tk} {k : List Int} : fdR ts k < 0 ↔ ∀ t ∈ ts, t.d ≠ k := by
  rcases fdR_cases ts k with ⟨h1, _, h2⟩ | ⟨i, hi, h1, _, h3⟩
  · rw [h1]
    refine ⟨fun _ t ht e => ?_, fun _ => by omega⟩
    obtain ⟨j, hj, rfl⟩ := List.getElem_of_mem ht
    exact h2 j hj (by rw [getD_tk hj]; exact e)
  · rw [h1]
    refine ⟨fun h => by omega, fun h => ?_⟩
    rw [getD_tk hi] at h3
    exact absurd h3 (h _ (List.getElem_mem hi))
theorem mrgTo_spec {a b : List Tk} (ha : SrtP a) (hb : SrtP b) : ∀ {i : Nat}, i ≤ b.length → SrtP (mrgTo a b i) ∧ ∀ t, t ∈ mrgTo a b i ↔ t ∈ a ∨ (t ∈ b.take i ∧ ∀ s ∈ a, s.d ≠ t.d)
  | 0, _ => ⟨ha, fun t => by simp [mrgTo]⟩
  | i + 1, hi => by
    obtain ⟨h1, h2⟩ := mrgTo_spec ha hb (i := i) (by omega)
    have hlt : i < b.length := by omega
    have htk : b.take (i + 1) = b.take i ++ [b[i]] := take_succ' b i hlt
    simp only [mrgTo]
    rw [getD_tk hlt]
    split
    · rename_i hf
      rw [fdR_neg] at hf
      have hbi : ∀ s ∈ b.take i, ltL s.d b[i].d = true := fun s hs => by
        obtain ⟨j, hj, rfl⟩ := List.getElem_of_mem hs
        rw [List.length_take] at hj
        rw [List.getElem_take]
        exact List.pairwise_iff_getElem.1 hb j i (by omega) hlt (by omega)
      refine ⟨insE_srt h1 fun s hs => ?_, fun t => ?_⟩
      · rcases (h2 s).1 hs with h | ⟨h, _⟩
        · exact hf s h
        · exact lt_ne (hbi s h)
      · rw [insE_mem, h2, htk, List.mem_append, List.mem_singleton]
        constructor
        · rintro ((h | ⟨h3, h4⟩) | rfl)
          · exact .inl h
          · exact .inr ⟨.inl h3, h4⟩
          · exact .inr ⟨.inr rfl, hf⟩
        · rintro (h | ⟨h3 | rfl, h4⟩)
          · exact .inl (.inl h)
          · exact .inl (.inr ⟨h3, h4⟩)
          · exact .inr rfl
    · rename_i hf
      refine ⟨h1, fun t => ?_⟩
      rw [h2, htk, List.mem_append, List.mem_singleton]
      constructor
      · rintro (h | ⟨h3, h4⟩)
        · exact .inl h
        · exact .inr ⟨.inl h3, h4⟩
      · rintro (h | ⟨h3 | rfl, h4⟩)
        · exact .inl h
        · exact .inr ⟨h3, h4⟩
        · exact absurd (fdR_neg.2 h4) hf
theorem mrgTo_all {a b : List Tk} (ha : chk a = true) (hb : chk b = true) : mrgTo a b b.length = mrg a b := by
  have h1 := (chk_iff.1 ha).1
  have h2 := (chk_iff.1 hb).1
  obtain ⟨h3, h4⟩ := mrgTo_spec h1 h2 (Nat.le_refl b.length)
  obtain ⟨h5, h6⟩ := mrg_spec a b h1 h2
  exact srtP_ext h3 h5 fun t => by rw [h4, h6, List.take_length]
theorem chk_sub {a b : List Tk} (ha : chk a = true) (hs : SrtP b) (h : ∀ t ∈ b, t ∈ a) : chk b = true := chk_iff.2 ⟨hs, fun t ht => (chk_iff.1 ha).2 t (h t ht)⟩
theorem mrg_chk {a b : List Tk} (ha : chk a = true) (hb : chk b = true) : chk (mrg a b) = true := by
  have h1 := chk_iff.1 ha
  have h2 := chk_iff.1 hb
  refine chk_iff.2 ⟨(mrg_spec a b h1.1 h2.1).1, fun t ht => ?_⟩
  rcases mrg_mem a b t ht with h | h
  · exact h1.2 t h
  · exact h2.2 t h
theorem kept_chk {ts : List Tk} (ks : List (List Int)) (h : chk ts = true) : chk (keptIn ks ts) = true :=
  chk_sub h ((chk_iff.1 h).1.sublist (List.filter_sublist)) fun t ht => (List.mem_filter.1 ht).1
theorem ins_chk {ts : List Tk} {xs : List Int} (h : chk ts = true) (hx : nmOk xs = true) (hm : metOf ts (nmD xs) = false) : chk (insE ts ⟨nmD xs, xs⟩) = true := by
  have h1 := chk_iff.1 h
  have hn : ∀ s ∈ ts, s.d ≠ nmD xs := fun s hs e => by
    have := (met_mem h1.1).2 ⟨s, hs, e⟩
    rw [this] at hm
    cases hm
  refine chk_iff.2 ⟨insE_srt h1.1 hn, fun t ht => ?_⟩
  rcases insE_mem.1 ht with h2 | h2
  · exact h1.2 t h2
  · rw [h2]; exact ⟨hx, rfl⟩

end Go.Proofs.YtmdfamnnnoieaaaDoor

/- soundpostref25: Merge, Collect. -/
namespace Go.Proofs.YtmdfamnnnoieaaaDoor
open Go
set_option linter.unusedVariables false
set_option linter.unusedSimpArgs false
set_option maxRecDepth 10000
set_option maxHeartbeats 2000000

theorem mergeE_bad {a b : List Tk} (h : (chk a && chk b) = false) : mergeE a b = ([], 250) := by unfold mergeE; rw [h]; rfl
theorem mergeE_ok {a b : List Tk} (ha : chk a = true) (hb : chk b = true) : mergeE a b = (mrg a b, 0) := by unfold mergeE; rw [ha, hb]; rfl
theorem mem_take_succ {ks : List (List Int)} {k : List Int} {j : Nat} (h : j < ks.length) : (k ∈ ks.take (j + 1)) ↔ k ∈ ks.take j ∨ ks[j] = k := by
  rw [take_succ' ks j h, List.mem_append, List.mem_singleton]
  exact ⟨fun h => h.imp id Eq.symm, fun h => h.imp id Eq.symm⟩
theorem kept_st {p q r : Prop} [Decidable p] [Decidable q] [Decidable r] (h : p ↔ (q ∨ r)) : some (Cont.av (bv (bif decide q then true else decide r))) = some (Cont.av (bv (decide p))) := by
  by_cases hq : q <;> by_cases hr : r <;> simp [h, hq, hr]
/-- soundpost/soundpostref25.Merge -/
theorem spec22 (a b : List Tk) (ha : ∀ t ∈ a, t.Ok) (hb : ∀ t ∈ b, t.Ok) (ha1 : a.length ≤ 500) (hb1 : b.length ≤ 500) : FnSpec Tryd.prog 22 [.d (poolD a), .d (poolD b)] [] (.tup ([poolD (mergeE a b).1, .v (.int .i64 (mergeE a b).2)].map .d)) [] [] := by
  refine fnSpec_of (rs := [.cell 4 24, .tmp 5]) Tryd.func22 rfl rfl (Nat.le_of_ble_eq_true rfl) (by simp [St.get]) fun E hk hn => ?_
  apply WPA.seq
  apply WPA.region
  · apply Trace.boxD 2 [] (.plain rfl) rfl rfl
    apply Trace.boxD 3 [] (.plain rfl) rfl rfl
    apply Trace.alloc 4 [] (.data _) zo24 (cellsAs_data _) rfl
    apply Trace.pu [] (.assign (.plain rfl))
    exact .nil _
  · exact keepOK_of hk hn rfl
  apply WPA.seq
  apply WPA.seq
  apply WPA.region
  · apply Trace.pu [_] (.loadAllD ty24 (.plain rfl) rfl rfl)
    apply Trace.cu (callArgs0 (.cons (.plain rfl) .nil)) (spec20 a ha (by omega)) en20
    apply Trace.pu [] (.cmp (.plain rfl) (.plain rfl) rfl)
    apply Trace.pu [] (.move (.plain rfl))
    apply Trace.pg [_] rfl (.loadAllD ty24 (.plain rfl) rfl rfl)
    apply Trace.cg rfl (callArgs0 (.cons (.gd rfl (fun h => h)) .nil)) (fun h => spec20 b hb (by omega)) en20
    apply Trace.pg [] rfl (.cmp (.gd rfl (fun h => h)) (.plain rfl) rfl)
    apply Trace.pu [] (.pick (.plain rfl) (.plain rfl) (.gd rfl (by simp)))
    exact .nil _
  · exact keepOK_of hk hn rfl
  refine WPA.cond rfl (fun hc1 => ?_) (fun hc1 => ?_)
  · have hE : (chk a && chk b) = false := by
      cases h1 : chk a with
      | false => rfl
      | true =>
        cases h2 : chk b with
        | false => rfl
        | true => simp [ckE, h1, h2] at hc1
    rw [mergeE_bad hE]
    apply WPA.seq
    apply WPA.region
    · apply Trace.pu [] (.build zo24 pl24 (.nil _ _) rfl)
      apply Trace.storeD ty24 (.plain rfl) (.plain rfl) rfl rfl rfl (by simp [AV.oneB, single]) (by decide) rfl
      apply Trace.pu [] (.assign (.plain rfl))
      exact .nil _
    · exact keepOK_of hk hn rfl
    refine WPA.ghost (Ghost.dataLe (l := 4) (ds' := [tksD []]) rfl (.rows .nil)) ?_
    apply WPA.ret
    refine ⟨.inr rfl, ⟨_, (.cons (.cellD rfl rfl ty24 rfl) (.cons (.tmp rfl) .nil)), ?_⟩, by simp [St.get]⟩
    rfl
  · have hC : chk a = true ∧ chk b = true := by
      cases h1 : chk a with
      | false => simp [ckE, h1] at hc1
      | true =>
        cases h2 : chk b with
        | false => simp [ckE, h1, h2] at hc1
        | true => exact ⟨rfl, rfl⟩
    obtain ⟨hCa, hCb⟩ := hC
    rw [mergeE_ok hCa hCb]
    have hAll := mrgTo_all hCa hCb
    apply WPA.skip
    apply WPA.seq
    apply WPA.region
    · apply Trace.buildSlice 17 [] so22 zo49 rfl (by decide) (by decide) (.nil _ _) rfl rfl rfl
      apply Trace.pu [] (.fieldAddr fl24_0 (.plain rfl) rfl)
      first | apply Trace.pu [_] (.loadLoc1D ty22 (.plain rfl) rfl rfl) | apply Trace.pu [_] (.loadLoc1 ty22 (.plain rfl) rfl rfl) | apply Trace.pu [] (.loadRp1 ty22 (.plain rfl) rfl) | apply Trace.pu [_] (.loadCol1 ty22 (.plain rfl) rfl rfl rfl (fun _ => by omega))
      apply Trace.append 16 [bk 17, sl 17] ap22 kd22 (by decide) (.own (.plain rfl) rfl) (.rows (cs := tkCols a) (.plain rfl) (tkCols_length _) (fun c hc => by rw [tkCols_len _ c hc]) (fun i hi => (tkCols_row ha hi).symm)) (tkCols_one _) (labs_ok rfl) (by omega) (by omega) (tkColsD_cat0 _) rfl
      apply Trace.pu [] (.build zo24 pl24 (.cons (.plain rfl) rfl rfl (Nat.le_of_ble_eq_true rfl) (.nil _ _)) rfl)
      apply Trace.alloc 6 [] (.data _) zo24 (cellsAs_data _) rfl
      apply Trace.storeDA ty24 (.plain rfl) (.plain rfl) rfl rfl rfl (by simp [AV.oneB, single, spliceL, vals]) (by decide) rfl
      exact .nil _
    · exact keepOK_of hk hn rfl
    apply WPA.seq
    apply WPA.seq
    refine WPA.ghost (Ghost.cellFreeze (lb := 6) (j := 0) (l := 16) (g := tkRow a) (cs' := [.d (tksD a)]) rfl rfl rfl rfl (fun i hi => by rw [tkColsD_at _ _ (by omega)]; exact tkCols_row ha (by omega)) (by rw [Nat.zero_add]; rfl)) ?_
    refine WPA.ghost ((Ghost.reblk (l := 6) (B := .cells [.d (tksD a)]) (B' := .data [tksD a]) rfl fun V M w h => h).trans (Ghost.weaken fun m c e => by rwa [← cons_upd])) ?_
    apply WPA.region
    · apply Trace.pu [] (.assign (.plain rfl))
      exact .nil _
    · exact keepOK_of hk hn rfl
    apply WPA.block
    refine WPA.loop (σ := Nat) (fun i => [(sl 2, .av (.loc 2 0)), (sl 3, .av (.loc 3 0)), (sl 4, .av (.loc 4 0)), (sl 6, .av (.loc 6 0)), (sl 7, .av (iv .i64 (i))), (bk 2, .blk (.data [tksD a])), (bk 3, .blk (.data [tksD b])), (bk 4, .blk (.data [.v (.slice none 0 0)])), (bk 6, .blk (.data [tksD (mrgTo a b i)]))]) (fun i => i ≤ b.length) (fun i => b.length - i) 0
      (St.le_cons rfl (St.le_cons rfl (St.le_cons rfl (St.le_cons rfl (St.le_cons rfl (St.le_cons rfl (St.le_cons rfl (St.le_cons rfl (St.le_cons rfl (St.le_nil _)))))))))) (Nat.zero_le _) fun i hi => ?_
    apply WPA.seq
    apply WPA.seq
    apply WPA.region
    · apply Trace.pu [] (.move (.plain rfl))
      apply Trace.pu [] (.fieldAddr fl24_0 (.plain rfl) rfl)
      first | apply Trace.pu [_] (.loadLoc1D ty22 (.plain rfl) rfl rfl) | apply Trace.pu [_] (.loadLoc1 ty22 (.plain rfl) rfl rfl) | apply Trace.pu [] (.loadRp1 ty22 (.plain rfl) rfl) | apply Trace.pu [_] (.loadCol1 ty22 (.plain rfl) rfl rfl rfl (fun _ => by omega))
      apply Trace.pu [] (.len rfl Tryd.underlying22 (.plain rfl) rfl)
      apply Trace.pu [] (.cmp (.plain rfl) (.plain rfl) rfl)
      exact .nil _
    · exact keepOK_of hk hn rfl
    refine WPA.cond rfl (fun hc2 => ?_) (fun hc2 => ?_)
    · have hlt : i < b.length := by simp at hc2; omega
      have hto : (b.getD i default).Ok := hb _ (getD_mem' hlt)
      obtain ⟨X, hX⟩ : ∃ X, mrgTo a b i = X := ⟨_, rfl⟩
      have hXo : ∀ t ∈ X, t.Ok := fun t ht => by
        rw [← hX] at ht
        rcases mrgTo_mem (by omega) t ht with h | h
        · exact ha t h
        · exact hb t h
      have hXl : X.length ≤ 1000 := by have := mrgTo_len a b i; rw [hX] at this; omega
      have hX1 : mrgTo a b (i + 1) = if fdR a (b.getD i default).d < 0 then insE X (b.getD i default) else X := by rw [← hX]; rfl
      rw [hX]
      apply WPA.skip
      apply WPA.seq
      apply WPA.block
      apply WPA.seq
      apply WPA.draw mixed
      · apply Trace.pu [_] (.loadAllD ty24 (.plain rfl) rfl rfl)
        apply Trace.pu [] (.fieldAddr fl24_0 (.plain rfl) rfl)
        first | apply Trace.pu [_] (.loadLoc1D ty22 (.plain rfl) rfl rfl) | apply Trace.pu [_] (.loadLoc1 ty22 (.plain rfl) rfl rfl) | apply Trace.pu [] (.loadRp1 ty22 (.plain rfl) rfl) | apply Trace.pu [_] (.loadCol1 ty22 (.plain rfl) rfl rfl rfl (fun _ => by omega))
        apply Trace.pu [] (.move (.plain rfl))
        first | apply Trace.pu [] (.indexRows el22 (.plain rfl) (.plain rfl) (fun _ => ⟨by omega, by omega⟩)) | apply Trace.pu [] (.indexOwn el22 (.plain rfl) (.plain rfl) (fun _ => ⟨by omega, by omega⟩)) | apply Trace.pu [] (.indexSl el22 (.plain rfl) (.plain rfl) (fun _ => ⟨by omega, by omega⟩)) | apply Trace.pu [] (.indexSa el22 (.plain rfl) (.plain rfl) (fun _ => ⟨by omega, by omega⟩))
        apply Trace.pu [] (.fieldAddr fl49_0 (.plain rfl) rfl)
        apply Trace.pu [] ((Pure.loadRp ty27 (.plain rfl) (fun _ => by rw [Int.toNat_natCast, List.drop_zero]; have := tk_len hb (i := i) (by omega); exact Nat.le_trans (by decide) this)).to (y := .d (byD (b.getD i default).d)) (by rw [Int.toNat_natCast]; exact row_d hb (by omega)))
        apply Trace.cu (callArgs0 (.cons (.plain rfl) (.cons (.plain rfl) .nil))) (spec33 a ha (by omega) (b.getD i default).d hto.len) en33
        apply Trace.pu [] (.cmp (.plain rfl) (.plain rfl) rfl)
        exact .nil _
      · rfl
      · exact keepOK_of hk hn rfl
      refine WPA.cond rfl (fun hc3 => ?_) (fun hc3 => ?_)
      · have hf : fdR a (b.getD i default).d < 0 := by simpa using hc3
        rw [if_pos hf] at hX1
        obtain ⟨t, hte⟩ : ∃ t, b.getD i default = t := ⟨_, rfl⟩
        rw [hte] at hX1 hto
        apply WPA.draw mixed
        · apply Trace.pu [] (.fieldAddr fl24_0 (.plain rfl) rfl)
          first | apply Trace.pu [_] (.loadLoc1D ty22 (.plain rfl) rfl rfl) | apply Trace.pu [_] (.loadLoc1 ty22 (.plain rfl) rfl rfl) | apply Trace.pu [] (.loadRp1 ty22 (.plain rfl) rfl) | apply Trace.pu [_] (.loadCol1 ty22 (.plain rfl) rfl rfl rfl (fun _ => by omega))
          apply Trace.pu [] (.fieldAddr fl24_0 (.plain rfl) rfl)
          first | apply Trace.pu [_] (.loadLoc1D ty22 (.plain rfl) rfl rfl) | apply Trace.pu [_] (.loadLoc1 ty22 (.plain rfl) rfl rfl) | apply Trace.pu [] (.loadRp1 ty22 (.plain rfl) rfl) | apply Trace.pu [_] (.loadCol1 ty22 (.plain rfl) rfl rfl rfl (fun _ => by omega))
          apply Trace.pu [] (.move (.plain rfl))
          first | apply Trace.pu [] (.indexRows el22 (.plain rfl) (.plain rfl) (fun _ => ⟨by omega, by omega⟩)) | apply Trace.pu [] (.indexOwn el22 (.plain rfl) (.plain rfl) (fun _ => ⟨by omega, by omega⟩)) | apply Trace.pu [] (.indexSl el22 (.plain rfl) (.plain rfl) (fun _ => ⟨by omega, by omega⟩)) | apply Trace.pu [] (.indexSa el22 (.plain rfl) (.plain rfl) (fun _ => ⟨by omega, by omega⟩))
          apply Trace.pu [] ((Pure.loadRp ty49 (.plain rfl) (fun _ => by rw [Int.toNat_natCast]; exact tk_len hb hlt)).to (y := .d (.agg t.cells)) (by rw [Int.toNat_natCast, tk_take hb, hte]))
          apply Trace.cu (callArgs0 (.cons (.plain rfl) (.cons (.plain rfl) .nil))) (insF X hXo hXl t hto) en34
          apply Trace.pu [] (.fieldAddr fl24_0 (.plain rfl) rfl)
          apply Trace.storeD ty22 (.plain rfl) (.plain rfl) rfl rfl rfl (by simp [AV.oneB, single]) (Nat.le_of_ble_eq_true rfl) rfl
          exact .nil _
        · rfl
        · exact keepOK_of hk hn rfl
        apply WPA.region
        · apply Trace.pu [] (.move (.plain rfl))
          apply Trace.pu [] (.arith (.plain rfl) (.plain rfl) rfl (fun _ => bd64 (by omega)))
          apply Trace.pu [] (.assign (.plain rfl))
          exact .nil _
        · exact keepOK_of hk hn rfl
        exact ⟨i + 1, by omega, by omega, St.le_cons rfl (St.le_cons rfl (St.le_cons rfl (St.le_cons rfl (St.le_cons (iv_eq (by omega)) (St.le_cons rfl (St.le_cons rfl (St.le_cons rfl (St.le_cons (by rw [hX1]; rfl) (St.le_nil _)))))))))⟩
      · have hf : ¬ fdR a (b.getD i default).d < 0 := by simpa using hc3
        rw [if_neg hf] at hX1
        apply WPA.skip
        apply WPA.region
        · apply Trace.pu [] (.move (.plain rfl))
          apply Trace.pu [] (.arith (.plain rfl) (.plain rfl) rfl (fun _ => bd64 (by omega)))
          apply Trace.pu [] (.assign (.plain rfl))
          exact .nil _
        · exact keepOK_of hk hn rfl
        exact ⟨i + 1, by omega, by omega, St.le_cons rfl (St.le_cons rfl (St.le_cons rfl (St.le_cons rfl (St.le_cons (iv_eq (by omega)) (St.le_cons rfl (St.le_cons rfl (St.le_cons rfl (St.le_cons (by rw [hX1]; rfl) (St.le_nil _)))))))))⟩
    · have hend : i = b.length := by simp at hc2; omega
      subst hend
      rw [hAll]
      have hml := mrg_length a b
      apply WPA.exit
      apply WPA.seq
      apply WPA.seq
      apply WPA.region
      · apply Trace.pu [] (.fieldAddr fl24_0 (.plain rfl) rfl)
        first | apply Trace.pu [_] (.loadLoc1D ty22 (.plain rfl) rfl rfl) | apply Trace.pu [_] (.loadLoc1 ty22 (.plain rfl) rfl rfl) | apply Trace.pu [] (.loadRp1 ty22 (.plain rfl) rfl) | apply Trace.pu [_] (.loadCol1 ty22 (.plain rfl) rfl rfl rfl (fun _ => by omega))
        apply Trace.pu [] (.len rfl Tryd.underlying22 (.plain rfl) rfl)
        apply Trace.pu [] (.cmp (.plain rfl) (.plain rfl) rfl)
        exact .nil _
      · exact keepOK_of hk hn rfl
      refine WPA.cond rfl (fun hc4 => ?_) (fun hc4 => ?_)
      · simp at hc4; omega
      · apply WPA.skip
        apply WPA.seq
        apply WPA.region
        · apply Trace.pu [_] (.loadAllD ty24 (.plain rfl) rfl rfl)
          apply Trace.storeD ty24 (.plain rfl) (.plain rfl) rfl rfl rfl (by simp [AV.oneB, single]) (by decide) rfl
          apply Trace.pu [] (.assign (.plain rfl))
          exact .nil _
        · exact keepOK_of hk hn rfl
        apply WPA.ret
        refine ⟨.inr rfl, ⟨_, (.cons (.cellD rfl rfl ty24 rfl) (.cons (.tmp rfl) .nil)), ?_⟩, by simp [St.get]⟩
        rfl
/-- soundpost/soundpostref25.Collect -/
theorem spec24 (ts : List Tk) (ks : List (List Int)) (hts : ∀ t ∈ ts, t.Ok) (hn1 : ts.length ≤ 1000) (hks : ∀ k ∈ ks, k.length = 32) (hk1 : ks.length ≤ 1000) : FnSpec Tryd.prog 24 [.d (poolD ts), .d (digsD ks)] [] (.tup ([poolD (collectE ts ks).1, .v (.int .i64 (collectE ts ks).2)].map .d)) [] [] := by
  refine fnSpec_of (rs := [.cell 4 24, .tmp 5]) Tryd.func24 rfl rfl (Nat.le_of_ble_eq_true rfl) (by simp [St.get]) fun E hk hn => ?_
  apply WPA.seq
  apply WPA.region
  · apply Trace.boxD 2 [] (.plain rfl) rfl rfl
    apply Trace.alloc 4 [] (.data _) zo24 (cellsAs_data _) rfl
    apply Trace.pu [] (.assign (.plain rfl))
    exact .nil _
  · exact keepOK_of hk hn rfl
  apply WPA.seq
  apply WPA.seq
  apply WPA.region
  · apply Trace.pu [_] (.loadAllD ty24 (.plain rfl) rfl rfl)
    apply Trace.cu (callArgs0 (.cons (.plain rfl) .nil)) (spec20 ts hts hn1) en20
    apply Trace.pu [] (.cmp (.plain rfl) (.plain rfl) rfl)
    exact .nil _
  · exact keepOK_of hk hn rfl
  refine WPA.cond rfl (fun hc1 => ?_) (fun hc1 => ?_)
  · have hE : chk ts = false := by
      cases h : chk ts with
      | false => rfl
      | true => simp [ckE, h] at hc1
    apply WPA.seq
    apply WPA.region
    · apply Trace.pu [] (.build zo24 pl24 (.nil _ _) rfl)
      apply Trace.storeD ty24 (.plain rfl) (.plain rfl) rfl rfl rfl (by simp [AV.oneB, single]) (by decide) rfl
      apply Trace.pu [] (.assign (.plain rfl))
      exact .nil _
    · exact keepOK_of hk hn rfl
    refine WPA.ghost (Ghost.dataLe (l := 4) (ds' := [tksD []]) rfl (.rows .nil)) ?_
    apply WPA.ret
    refine ⟨.inr rfl, ⟨_, (.cons (.cellD rfl rfl ty24 rfl) (.cons (.tmp rfl) .nil)), ?_⟩, by simp [St.get]⟩
    simp only [collectE, hE, Bool.false_eq_true, if_false]
    rfl
  · have hC : chk ts = true := by
      cases h : chk ts with
      | true => rfl
      | false => simp [ckE, h] at hc1
    apply WPA.skip
    apply WPA.seq
    apply WPA.region
    · apply Trace.pu [] (.build zo24 pl24 (.nil _ _) rfl)
      apply Trace.alloc 6 [] (.data _) zo24 (cellsAs_data _) rfl
      apply Trace.storeD ty24 (.plain rfl) (.plain rfl) rfl rfl rfl (by simp [AV.oneB, single]) (by decide) rfl
      exact .nil _
    · exact keepOK_of hk hn rfl
    apply WPA.seq
    apply WPA.seq
    refine WPA.ghost (Ghost.dataCells (l := 6) (cs := [nilS]) rfl rfl) ?_
    refine WPA.ghost (Ghost.cellNil (lb := 6) (j := 0) (l := 16) (cols := tkCols []) (n := 33) rfl rfl rfl rfl (by rw [hk]; decide) (tkCols_length _) (tkCols_len []) rfl) ?_
    apply WPA.region
    · apply Trace.pu [] (.assign (.plain rfl))
      exact .nil _
    · exact keepOK_of hk hn rfl
    apply WPA.block
    refine WPA.loop (σ := Nat) (fun i => [(sl 1, .av (.d (digsD ks))), (sl 2, .av (.loc 2 0)), (sl 4, .av (.loc 4 0)), (sl 6, .av (.loc 6 0)), (sl 7, .av (iv .i64 (i))), (bk 2, .blk (.data [tksD ts])), (bk 4, .blk (.data [.v (.slice none 0 0)])), (bk 6, .blk (.cells [.own 16 ((keptIn ks (ts.take i))).length])), (bk 16, .blk (.app 33 ((keptIn ks (ts.take i))).length (tkCols ((keptIn ks (ts.take i))))))]) (fun i => i ≤ ts.length) (fun i => ts.length - i) 0
      (St.le_cons rfl (St.le_cons rfl (St.le_cons rfl (St.le_cons rfl (St.le_cons rfl (St.le_cons rfl (St.le_cons rfl (St.le_cons rfl (St.le_cons rfl (St.le_nil _)))))))))) (Nat.zero_le _) fun i hi => ?_
    apply WPA.seq
    apply WPA.seq
    apply WPA.region
    · apply Trace.pu [] (.move (.plain rfl))
      apply Trace.pu [] (.fieldAddr fl24_0 (.plain rfl) rfl)
      first | apply Trace.pu [_] (.loadLoc1D ty22 (.plain rfl) rfl rfl) | apply Trace.pu [_] (.loadLoc1 ty22 (.plain rfl) rfl rfl) | apply Trace.pu [] (.loadRp1 ty22 (.plain rfl) rfl) | apply Trace.pu [_] (.loadCol1 ty22 (.plain rfl) rfl rfl rfl (fun _ => by omega))
      apply Trace.pu [] (.len rfl Tryd.underlying22 (.plain rfl) rfl)
      apply Trace.pu [] (.cmp (.plain rfl) (.plain rfl) rfl)
      exact .nil _
    · exact keepOK_of hk hn rfl
    refine WPA.cond rfl (fun hc2 => ?_) (fun hc2 => ?_)
    · have hlt : i < ts.length := by simp at hc2; omega
      obtain ⟨t, hte⟩ : ∃ t, ts.getD i default = t := ⟨_, rfl⟩
      have hto : t.Ok := by rw [← hte]; exact hts _ (getD_mem' hlt)
      have hkp := kept_succ (ks := ks) hlt
      rw [hte] at hkp
      have hkle := kept_le (ks := ks) (ts := ts) (i := i)
      apply WPA.skip
      apply WPA.seq
      apply WPA.block
      apply WPA.seq
      apply WPA.region
      · apply Trace.pu [] (.assign (.plain rfl))
        exact .nil _
      · exact keepOK_of hk hn rfl
      apply WPA.seq
      apply WPA.seq
      apply WPA.region
      · apply Trace.pu [] (.assign (.plain rfl))
        exact .nil _
      · exact keepOK_of hk hn rfl
      apply WPA.block
      refine WPA.loop (σ := Nat) (fun j => [(sl 1, .av (.d (digsD ks))), (sl 2, .av (.loc 2 0)), (sl 4, .av (.loc 4 0)), (sl 6, .av (.loc 6 0)), (sl 7, .av (iv .i64 (i))), (sl 8, .av (bv (decide (t.d ∈ ks.take j)))), (sl 9, .av (iv .i64 (j))), (bk 2, .blk (.data [tksD ts])), (bk 4, .blk (.data [.v (.slice none 0 0)])), (bk 6, .blk (.cells [.own 16 ((keptIn ks (ts.take i))).length])), (bk 16, .blk (.app 33 ((keptIn ks (ts.take i))).length (tkCols ((keptIn ks (ts.take i))))))]) (fun j => j ≤ ks.length) (fun j => ks.length - j) 0
        (St.le_cons rfl (St.le_cons rfl (St.le_cons rfl (St.le_cons rfl (St.le_cons rfl (St.le_cons (by rw [List.take_zero]; rfl) (St.le_cons rfl (St.le_cons rfl (St.le_cons rfl (St.le_cons rfl (St.le_cons rfl (St.le_nil _)))))))))))) (Nat.zero_le _) fun j hj => ?_
      apply WPA.seq
      apply WPA.seq
      apply WPA.region
      · apply Trace.pu [] (.move (.plain rfl))
        apply Trace.pu [] (.move (.plain rfl))
        apply Trace.pu [] (.len rfl Tryd.underlying41 (.plain rfl) rfl)
        apply Trace.pu [] (.cmp (.plain rfl) (.plain rfl) rfl)
        exact .nil _
      · exact keepOK_of hk hn rfl
      refine WPA.cond rfl (fun hc3 => ?_) (fun hc3 => ?_)
      · have hjl : j < ks.length := by simp at hc3; omega
        obtain ⟨q1, q2⟩ := dig_load hks hjl
        obtain ⟨z, hze⟩ : ∃ z, ks.getD j [] = z := ⟨_, rfl⟩
        have hzm : z ∈ ks := by rw [← hze, List.getD_eq_getElem?_getD, List.getElem?_eq_getElem hjl]; exact List.getElem_mem hjl
        have hzi : ks[j] = z := by rw [← hze, List.getD_eq_getElem?_getD, List.getElem?_eq_getElem hjl]; rfl
        have hms := mem_take_succ (k := t.d) hjl
        rw [hzi] at hms
        apply WPA.skip
        apply WPA.seq
        apply WPA.block
        apply WPA.draw mixed
        · apply Trace.pu [] (.move (.plain rfl))
          apply Trace.pu [] (.move (.plain rfl))
          apply Trace.pg [] rfl (.move (.plain rfl))
          apply Trace.pg [] rfl (.move (.plain rfl))
          first | apply Trace.pg [] rfl (.indexRows el41 (.gd rfl (fun h => h)) (.gd rfl (fun h => h)) (fun _ => ⟨by omega, by omega⟩)) | apply Trace.pg [] rfl (.indexOwn el41 (.gd rfl (fun h => h)) (.gd rfl (fun h => h)) (fun _ => ⟨by omega, by omega⟩)) | apply Trace.pg [] rfl (.indexSl el41 (.gd rfl (fun h => h)) (.gd rfl (fun h => h)) (fun _ => ⟨by omega, by omega⟩)) | apply Trace.pg [] rfl (.indexSa el41 (.gd rfl (fun h => h)) (.gd rfl (fun h => h)) (fun _ => ⟨by omega, by omega⟩))
          apply Trace.pg [] rfl ((Pure.loadRp ty27 (.gd rfl (fun h => h)) (fun _ => by rw [Int.toNat_natCast, q1]; exact Nat.le_refl _)).to (y := .d (byD z)) (by rw [Int.toNat_natCast, q2, hze]))
          apply Trace.pg [] rfl (.fieldAddr fl24_0 (.plain rfl) rfl)
          first | apply Trace.pg [_] rfl (.loadLoc1D ty22 (.gd rfl (fun h => h)) rfl rfl) | apply Trace.pg [_] rfl (.loadLoc1 ty22 (.gd rfl (fun h => h)) rfl rfl) | apply Trace.pg [] rfl (.loadRp1 ty22 (.gd rfl (fun h => h)) rfl) | apply Trace.pg [_] rfl (.loadCol1 ty22 (.gd rfl (fun h => h)) rfl rfl rfl (fun _ => by omega))
          apply Trace.pg [] rfl (.move (.plain rfl))
          first | apply Trace.pg [] rfl (.indexRows el22 (.gd rfl (fun h => h)) (.gd rfl (fun h => h)) (fun _ => ⟨by omega, by omega⟩)) | apply Trace.pg [] rfl (.indexOwn el22 (.gd rfl (fun h => h)) (.gd rfl (fun h => h)) (fun _ => ⟨by omega, by omega⟩)) | apply Trace.pg [] rfl (.indexSl el22 (.gd rfl (fun h => h)) (.gd rfl (fun h => h)) (fun _ => ⟨by omega, by omega⟩)) | apply Trace.pg [] rfl (.indexSa el22 (.gd rfl (fun h => h)) (.gd rfl (fun h => h)) (fun _ => ⟨by omega, by omega⟩))
          apply Trace.pg [] rfl (.fieldAddr fl49_0 (.gd rfl (fun h => h)) rfl)
          apply Trace.pg [] rfl ((Pure.loadRp ty27 (.gd rfl (fun h => h)) (fun _ => by rw [Int.toNat_natCast, List.drop_zero]; have := tk_len hts (i := i) (by omega); exact Nat.le_trans (by decide) this)).to (y := .d (byD t.d)) (by rw [← hte, Int.toNat_natCast]; exact row_d hts (by omega)))
          apply Trace.pg [] rfl (.aeq ba27 (.gd rfl (fun h => h)) (.gd rfl (fun h => h)) (fun _ => hks z hzm) (fun _ => hto.len))
          apply Trace.pu [] (.pick (.plain rfl) (.plain rfl) (.gd rfl (by simp)))
          apply Trace.pu [] (.assign (.plain rfl))
          exact .nil _
        · rfl
        · exact keepOK_of hk hn rfl
        apply WPA.region
        · apply Trace.pu [] (.move (.plain rfl))
          apply Trace.pu [] (.arith (.plain rfl) (.plain rfl) rfl (fun _ => bd64 (by omega)))
          apply Trace.pu [] (.assign (.plain rfl))
          exact .nil _
        · exact keepOK_of hk hn rfl
        exact ⟨j + 1, by omega, by omega, St.le_cons rfl (St.le_cons rfl (St.le_cons rfl (St.le_cons rfl (St.le_cons rfl (St.le_cons (kept_st hms) (St.le_cons (iv_eq (by omega)) (St.le_cons rfl (St.le_cons rfl (St.le_cons rfl (St.le_cons rfl (St.le_nil _)))))))))))⟩
      · have hjl : j = ks.length := by simp at hc3; omega
        subst hjl
        rw [List.take_length]
        apply WPA.exit
        apply WPA.seq
        apply WPA.region
        · apply Trace.pu [] (.move (.plain rfl))
          exact .nil _
        · exact keepOK_of hk hn rfl
        refine WPA.cond rfl (fun hc4 => ?_) (fun hc4 => ?_)
        · rw [if_pos (of_decide_eq_true hc4)] at hkp
          apply WPA.draw mixed
          · apply Trace.pu [] (.fieldAddr fl24_0 (.plain rfl) rfl)
            first | apply Trace.pu [_] (.loadLoc1D ty22 (.plain rfl) rfl rfl) | apply Trace.pu [_] (.loadLoc1 ty22 (.plain rfl) rfl rfl) | apply Trace.pu [] (.loadRp1 ty22 (.plain rfl) rfl) | apply Trace.pu [_] (.loadCol1 ty22 (.plain rfl) rfl rfl rfl (fun _ => by omega))
            apply Trace.pu [] (.fieldAddr fl24_0 (.plain rfl) rfl)
            first | apply Trace.pu [_] (.loadLoc1D ty22 (.plain rfl) rfl rfl) | apply Trace.pu [_] (.loadLoc1 ty22 (.plain rfl) rfl rfl) | apply Trace.pu [] (.loadRp1 ty22 (.plain rfl) rfl) | apply Trace.pu [_] (.loadCol1 ty22 (.plain rfl) rfl rfl rfl (fun _ => by omega))
            apply Trace.pu [] (.move (.plain rfl))
            first | apply Trace.pu [] (.indexRows el22 (.plain rfl) (.plain rfl) (fun _ => ⟨by omega, by omega⟩)) | apply Trace.pu [] (.indexOwn el22 (.plain rfl) (.plain rfl) (fun _ => ⟨by omega, by omega⟩)) | apply Trace.pu [] (.indexSl el22 (.plain rfl) (.plain rfl) (fun _ => ⟨by omega, by omega⟩)) | apply Trace.pu [] (.indexSa el22 (.plain rfl) (.plain rfl) (fun _ => ⟨by omega, by omega⟩))
            apply Trace.pu [] ((Pure.loadRp ty49 (.plain rfl) (fun _ => by rw [Int.toNat_natCast]; exact tk_len hts hlt)).to (y := .d (.agg t.cells)) (by rw [Int.toNat_natCast, tk_take hts, hte]))
            apply Trace.buildOne so22 zo49 rfl (by decide) (by decide) (.plain rfl) (Tk.cells_length hto.len)
            apply Trace.append 46 [bk 16] ap22 kd22 (by decide) (.own (.plain rfl) rfl) (.rows (cs := tkCols [t]) (.plain rfl) (tkCols_length _) (fun c hc => by rw [tkCols_len _ c hc]; rfl) (rows_one hto)) (tkCols_one _) (labs_ok rfl) (by omega) (by omega) (tkCols_cat _ _) rfl
            apply Trace.pu [] (.fieldAddr fl24_0 (.plain rfl) rfl)
            apply Trace.storeLoc ty22 (.plain rfl) (.plain rfl) rfl rfl rfl (by simp [AV.oneB, single]) (Nat.le_of_ble_eq_true rfl) rfl
            exact .nil _
          · rfl
          · exact keepOK_of hk hn rfl
          first
          | (refine WPA.weaken (T := [(sl 1, .av (.d (digsD ks))), (sl 2, .av (.loc 2 0)), (sl 4, .av (.loc 4 0)), (sl 6, .av (.loc 6 0)), (sl 7, .av (iv .i64 (i))), (bk 2, .blk (.data [tksD ts])), (bk 4, .blk (.data [.v (.slice none 0 0)])), (bk 6, .blk (.cells [.own 46 ((keptIn ks (ts.take i)).length + 1)])), (bk 46, .blk (.app 33 ((keptIn ks (ts.take i)).length + 1) (tkCols ((keptIn ks (ts.take i)) ++ [t]))))]) ?_ (St.le_cons rfl (St.le_cons rfl (St.le_cons rfl (St.le_cons rfl (St.le_cons rfl (St.le_cons rfl (St.le_cons rfl (St.le_cons rfl (St.le_cons rfl (St.le_nil _)))))))))); refine WPA.ghost (Ghost.swap 46 16 (by rw [hk]; decide) (by rw [hk]; decide) rfl) ?_)
          | skip
          apply WPA.region
          · apply Trace.pu [] (.move (.plain rfl))
            apply Trace.pu [] (.arith (.plain rfl) (.plain rfl) rfl (fun _ => bd64 (by omega)))
            apply Trace.pu [] (.assign (.plain rfl))
            exact .nil _
          · exact keepOK_of hk hn rfl
          exact ⟨i + 1, by omega, by omega, St.le_cons rfl (St.le_cons rfl (St.le_cons rfl (St.le_cons rfl (St.le_cons (iv_eq (by omega)) (St.le_cons rfl (St.le_cons rfl (St.le_cons (by rw [hkp]; first | rfl | (rw [List.length_append]; rfl)) (St.le_cons (by rw [hkp]; first | rfl | (rw [List.length_append]; rfl)) (St.le_nil _)))))))))⟩
        · rw [if_neg (of_decide_eq_false hc4), List.append_nil] at hkp
          apply WPA.skip
          first
          | (refine WPA.weaken (T := [(sl 1, .av (.d (digsD ks))), (sl 2, .av (.loc 2 0)), (sl 4, .av (.loc 4 0)), (sl 6, .av (.loc 6 0)), (sl 7, .av (iv .i64 (i))), (bk 2, .blk (.data [tksD ts])), (bk 4, .blk (.data [.v (.slice none 0 0)])), (bk 6, .blk (.cells [.own 46 ((keptIn ks (ts.take i)).length + 1)])), (bk 46, .blk (.app 33 ((keptIn ks (ts.take i)).length + 1) (tkCols ((keptIn ks (ts.take i)) ++ [t]))))]) ?_ (St.le_cons rfl (St.le_cons rfl (St.le_cons rfl (St.le_cons rfl (St.le_cons rfl (St.le_cons rfl (St.le_cons rfl (St.le_cons rfl (St.le_cons rfl (St.le_nil _)))))))))); refine WPA.ghost (Ghost.swap 46 16 (by rw [hk]; decide) (by rw [hk]; decide) rfl) ?_)
          | skip
          apply WPA.region
          · apply Trace.pu [] (.move (.plain rfl))
            apply Trace.pu [] (.arith (.plain rfl) (.plain rfl) rfl (fun _ => bd64 (by omega)))
            apply Trace.pu [] (.assign (.plain rfl))
            exact .nil _
          · exact keepOK_of hk hn rfl
          exact ⟨i + 1, by omega, by omega, St.le_cons rfl (St.le_cons rfl (St.le_cons rfl (St.le_cons rfl (St.le_cons (iv_eq (by omega)) (St.le_cons rfl (St.le_cons rfl (St.le_cons (by rw [hkp]; first | rfl | (rw [List.length_append]; rfl)) (St.le_cons (by rw [hkp]; first | rfl | (rw [List.length_append]; rfl)) (St.le_nil _)))))))))⟩
    · have hend : i = ts.length := by simp at hc2; omega
      subst hend
      rw [List.take_length]
      have hmo : ∀ t ∈ keptIn ks ts, t.Ok := fun t ht => hts t (List.mem_filter.1 ht).1
      apply WPA.exit
      apply WPA.seq
      refine WPA.ghost (Ghost.cellFreeze (lb := 6) (j := 0) (l := 16) (g := tkRow (keptIn ks ts)) (cs' := [.d (tksD (keptIn ks ts))]) rfl rfl rfl rfl (fun i hi => tkCols_row hmo hi) rfl) ?_
      refine WPA.ghost ((Ghost.reblk (l := 6) (B := .cells [.d (tksD (keptIn ks ts))]) (B' := .data [tksD (keptIn ks ts)]) rfl fun V M w h => h).trans (Ghost.weaken fun m c e => by rwa [← cons_upd])) ?_
      apply WPA.region
      · apply Trace.pu [_] (.loadAllD ty24 (.plain rfl) rfl rfl)
        apply Trace.storeD ty24 (.plain rfl) (.plain rfl) rfl rfl rfl (by simp [AV.oneB, single]) (by decide) rfl
        apply Trace.pu [] (.assign (.plain rfl))
        exact .nil _
      · exact keepOK_of hk hn rfl
      apply WPA.ret
      refine ⟨.inr rfl, ⟨_, (.cons (.cellD rfl rfl ty24 rfl) (.cons (.tmp rfl) .nil)), ?_⟩, by simp [St.get]⟩
      simp only [collectE, hC, if_true]
      rfl

end Go.Proofs.YtmdfamnnnoieaaaDoor

