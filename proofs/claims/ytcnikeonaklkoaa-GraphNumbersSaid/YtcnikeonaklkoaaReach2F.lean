/- graph.Reach. -/
import Derived.Test.YtcnikeonaklkoaaReach1F
import Derived.Test.YtcnikeonaklkoaaSort1
namespace Go.Proofs.Ytcnikeonaklkoaa
open Go
set_option linter.unusedVariables false
set_option linter.unusedSimpArgs false
set_option maxRecDepth 10000
set_option maxHeartbeats 2000000

def Gr.reachP (g : Gr) (v : Int) : List Int × Int := if g.formed ≠ 0 then ([], g.formed) else if 0 ≤ v ∧ v < g.lat.length then (g.reachL v.toNat, 0) else ([], 1)
theorem but_del {S : St} {rows : List (List Int)} {f n : Nat} (h : (famBut rows f).le S) (hn : Nat.blt n 800 = true) : (famBut rows f).le (St.del n S) := fun m c e => by
  rw [St.get_del, if_neg (fun e2 => by rw [← e2, but_small (Nat.le_of_ble_eq_true hn)] at e; cases e)]
  exact h m c e
theorem drawB_of {ops : List Oper} {S : St} {L : List Ax} (h1 : (edgesBack ops 0 && pairsB (masks ops []) 0 L) = true) (h2 : ∀ A ∈ L, freshB A S = true) : drawB ops S L = true := by
  unfold drawB
  rw [h1, List.all_eq_true.2 h2]; rfl
theorem freshL_nil {S : St} : ∀ A ∈ ([] : List Ax), freshB A S = true := fun A h => by cases h
theorem freshL_cons {S : St} {A : Ax} {L : List Ax} (h : freshB A S = true) (t : ∀ A ∈ L, freshB A S = true) : ∀ B ∈ A :: L, freshB B S = true := fun B hB => by
  rcases List.mem_cons.1 hB with rfl | hB
  · exact h
  · exact t B hB
theorem setC_ment {rows : List (List Int)} {f l k len : Nat} (hl : l < 400) (hne : k ≠ l) : ∀ x ∈ (matC rows).set f (.own k len), ¬ Ment x l := by
  intro x hx hm
  rcases List.mem_or_eq_of_mem_set hx with hx | rfl
  · exact matC_ment hl x hx hm
  · cases hm with
    | own => exact hne rfl
theorem setC_out {rows : List (List Int)} {f l k m n : Nat} (hl : l < 400) (hk : k < 400) : ∀ x ∈ ((matC rows).set f (.own l m)).set f (.own k n), ¬ Ment x (inn f) := by
  rw [List.set_set]
  exact matC_but hk
theorem rep_ment {l : Nat} (n : Nat) : ∀ x ∈ List.replicate n nilS, ¬ Ment x l := by
  intro x hx hm
  have := (List.mem_replicate.1 hx).2
  subst this; cases hm
theorem nm_rep {l : Nat} {ns : List Nat} : NM ([] : St) l ns := fun n c e => by cases e
theorem famNil_T {S S' : St} {l n : Nat} (hle : S'.le S) (hs : S'.get (bk l) = none) : ∀ m c, St.get ((bk l, .blk (.appv (matC (noRows n)))) :: (S' ++ fam (noRows n))) m = some c → (m = bk l ∧ c = .blk (.appv (matC (noRows n)))) ∨ (∃ i, m = bk (inn i) ∧ c = rowB []) ∨ (m ≠ bk l ∧ S.get m = some c) := fun m c e => by
  rw [get_cons] at e
  by_cases hm : bk l = m
  · rw [if_pos hm] at e; injection e with e; exact .inl ⟨hm.symm, e.symm⟩
  · rw [if_neg hm, get_app] at e
    cases hg : S'.get m with
    | some d => rw [hg] at e; simp only at e; injection e with e; subst e; exact .inr (.inr ⟨Ne.symm hm, hle _ _ hg⟩)
    | none =>
      rw [hg] at e; simp only at e
      obtain ⟨i, hi, h1, h2⟩ := fam_only e
      rw [noRows_at] at h2
      exact .inr (.inl ⟨i, h1, h2⟩)
/-- soundpost/graph.Reach -/
theorem spec14 (g : Gr) (hz : g.Sz) (fr : Int) : FnSpec Try.prog 14 [g.av, iv .i64 fr] [] (.tup ([intsD (g.reachP fr).1, .v (.int .i64 (g.reachP fr).2)].map .d)) [] [] := by
  have hn1 := hz.n
  have hn2 := hz.m
  refine fnSpec_of (rs := [.cell 4 22, .tmp 5]) Try.func14 rfl rfl (Nat.le_of_ble_eq_true rfl) (by simp [St.get]) fun E hk hn => ?_
  apply WPA.seq
  apply WPA.region
  · first | apply Trace.boxD 2 [] (.plain rfl) rfl rfl | apply Trace.box 2 [] (.plain rfl) rfl rfl rfl
    apply Trace.alloc 4 [] (.data _) zo22 (cellsAs_data _) rfl
    apply Trace.pu [] (.assign (.plain rfl))
    exact .nil _
  · exact keepOK_of hk hn rfl
  apply WPA.seq
  apply WPA.seq
  apply WPA.region
  · first | apply Trace.pu [_] (.loadAllD ty25 (.plain rfl) rfl (by simp)) | apply Trace.pu [_] (.loadLocD ty25 (.plain rfl) rfl (fun _ => by simp)) | apply Trace.pu [_] (.loadLoc ty25 (.plain rfl) rfl (fun _ => Nat.le_of_ble_eq_true rfl)) | apply Trace.pu [] (.loadRp ty25 (.plain rfl) (fun _ => by decide)) | apply Trace.pu [] (.loadRp ty25 (.plain rfl) (fun _ => Nat.le_of_ble_eq_true rfl)) | apply Trace.pu [_] (.loadCol ty25 (.plain rfl) rfl rfl (fun _ => by decide) (fun _ => by omega)) | apply Trace.pu [_] (.loadArr ty25 (.plain rfl) rfl)
    apply Trace.cu (callArgs0 (.cons (.plain rfl) .nil)) (spec22 g hz) en22
    apply Trace.pu [] (.assign (.plain rfl))
    exact .nil _
  · exact keepOK_of hk hn rfl
  apply WPA.seq
  apply WPA.region
  · apply Trace.pu [] (.move (.plain rfl))
    apply Trace.pu [] (.cmp (.plain rfl) (.plain rfl) rfl)
    exact .nil _
  · exact keepOK_of hk hn rfl
  refine WPA.cond rfl (fun hc1 => ?_) (fun hc1 => ?_)
  · have hC : g.formed ≠ 0 := by simpa using hc1
    have hM : g.reachP fr = ([], g.formed) := by unfold Gr.reachP; rw [if_pos hC]
    apply WPA.seq
    apply WPA.region
    · apply Trace.pu [] (.move (.plain rfl))
      first | apply Trace.storeD ty22 (.plain rfl) (.plain rfl) rfl rfl rfl (by simp [AV.oneB, single]) (Nat.le_of_ble_eq_true rfl) rfl | apply Trace.storeDA ty22 (.plain rfl) (.plain rfl) rfl rfl rfl (by simp [AV.oneB, single]) (Nat.le_of_ble_eq_true rfl) rfl | apply Trace.storeLoc ty22 (.plain rfl) (.plain rfl) rfl rfl rfl (by simp [AV.oneB, single]) (Nat.le_of_ble_eq_true rfl) rfl | apply Trace.storeRow ty22 (.plain rfl) (.plain rfl) rfl rfl rfl rfl (by decide) (by simp [AV.oneB, single]) rfl (by omega)
      apply Trace.pu [] (.assign (.plain rfl))
      exact .nil _
    · exact keepOK_of hk hn rfl
    refine WPA.ghost (Ghost.dataLe (l := 4) rfl (.rows (n := 1) (g := fun i => [Col.at (.ints .i64 []) i]) .nil)) ?_
    apply WPA.ret
    refine ⟨.inr rfl, ⟨_, (.cons (.cellD1 rfl rfl ty22 rfl) (.cons (.tmp rfl) .nil)), ?_⟩, by simp [St.get]⟩
    rw [hM]; rfl
  · have hC : g.formed = 0 := by simpa using hc1
    have hok := g.ok_of hC
    have hn5 := hok.n
    have hm5 := hok.m
    apply WPA.skip
    apply WPA.seq
    apply WPA.seq
    apply WPA.region
    · apply Trace.pu [] (.move (.plain rfl))
      apply Trace.pu [] (.cmp (.plain rfl) (.plain rfl) rfl)
      apply Trace.pu [] (.move (.plain rfl))
      apply Trace.pg [] rfl (.move (.plain rfl))
      apply Trace.pg [] rfl (.fieldAddr fl25_0 (.plain rfl) rfl)
      first | apply Trace.pg [_] rfl (.loadLoc1D ty22 (.gd rfl (fun h => h)) rfl rfl) | apply Trace.pg [_] rfl (.loadLoc1 ty22 (.gd rfl (fun h => h)) rfl rfl) | apply Trace.pg [] rfl (.loadRp1 ty22 (.gd rfl (fun h => h)) rfl) | apply Trace.pg [_] rfl (.loadCol1 ty22 (.gd rfl (fun h => h)) rfl rfl rfl (fun _ => by omega))
      apply Trace.pg [] rfl (.len rfl Try.underlying22 (.gd rfl (fun h => h)) rfl)
      apply Trace.pg [] rfl (.cmp (.gd rfl (fun h => h)) (.gd rfl (fun h => h)) rfl)
      apply Trace.pu [] (.pick (.plain rfl) (.plain rfl) (.gd rfl (by simp)))
      exact .nil _
    · exact keepOK_of hk hn rfl
    refine WPA.cond rfl (fun hc2 => ?_) (fun hc2 => ?_)
    · have hM : g.reachP fr = ([], 1) := by
        have h9 : (bif decide (fr < 0) then true else decide ((g.lat.length : Int) ≤ fr)) = true := hc2
        rw [bif_or, Bool.or_eq_true, decide_eq_true_eq, decide_eq_true_eq] at h9
        unfold Gr.reachP; rw [if_neg (by rw [hC]; decide), if_neg (by omega)]
      apply WPA.seq
      apply WPA.region
      · first | apply Trace.storeD ty22 (.plain rfl) (.plain rfl) rfl rfl rfl (by simp [AV.oneB, single]) (Nat.le_of_ble_eq_true rfl) rfl | apply Trace.storeDA ty22 (.plain rfl) (.plain rfl) rfl rfl rfl (by simp [AV.oneB, single]) (Nat.le_of_ble_eq_true rfl) rfl | apply Trace.storeLoc ty22 (.plain rfl) (.plain rfl) rfl rfl rfl (by simp [AV.oneB, single]) (Nat.le_of_ble_eq_true rfl) rfl | apply Trace.storeRow ty22 (.plain rfl) (.plain rfl) rfl rfl rfl rfl (by decide) (by simp [AV.oneB, single]) rfl (by omega)
        apply Trace.pu [] (.assign (.plain rfl))
        exact .nil _
      · exact keepOK_of hk hn rfl
      refine WPA.ghost (Ghost.dataLe (l := 4) rfl (.rows (n := 1) (g := fun i => [Col.at (.ints .i64 []) i]) .nil)) ?_
      apply WPA.ret
      refine ⟨.inr rfl, ⟨_, (.cons (.cellD1 rfl rfl ty22 rfl) (.cons (.tmp rfl) .nil)), ?_⟩, by simp [St.get]⟩
      rw [hM]; rfl
    · obtain ⟨v, rfl, hv⟩ : ∃ v : Nat, fr = (v : Int) ∧ v < g.lat.length := by
        have h9 : (bif decide (fr < 0) then true else decide ((g.lat.length : Int) ≤ fr)) = false := hc2
        rw [bif_or, Bool.or_eq_false_iff, decide_eq_false_iff_not, decide_eq_false_iff_not] at h9
        exact ⟨fr.toNat, by omega, by omega⟩
      have hM : g.reachP (v : Int) = (g.reachL v, 0) := by unfold Gr.reachP; rw [if_neg (by rw [hC]; decide), if_pos (by omega)]; rfl
      apply WPA.skip
      apply WPA.seq
      apply WPA.region
      · apply Trace.pu [] (.fieldAddr fl25_0 (.plain rfl) rfl)
        first | apply Trace.pu [_] (.loadLoc1D ty22 (.plain rfl) rfl rfl) | apply Trace.pu [_] (.loadLoc1 ty22 (.plain rfl) rfl rfl) | apply Trace.pu [] (.loadRp1 ty22 (.plain rfl) rfl) | apply Trace.pu [_] (.loadCol1 ty22 (.plain rfl) rfl rfl rfl (fun _ => by omega))
        apply Trace.pu [] (.len rfl Try.underlying22 (.plain rfl) rfl)
        apply Trace.makeSlice 28 [] so46 by22 zo22 rfl (by decide) (.plain rfl) (.plain rfl) ⟨by omega, by omega⟩ (by omega) (by omega) rfl rfl
        apply Trace.alloc 6 [] (.data _) zo46 (cellsAs_data _) rfl
        first | apply Trace.storeD ty46 (.plain rfl) (.plain rfl) rfl rfl rfl (by simp [AV.oneB, single]) (Nat.le_of_ble_eq_true rfl) rfl | apply Trace.storeDA ty46 (.plain rfl) (.plain rfl) rfl rfl rfl (by simp [AV.oneB, single]) (Nat.le_of_ble_eq_true rfl) rfl | apply Trace.storeLoc ty46 (.plain rfl) (.plain rfl) rfl rfl rfl (by simp [AV.oneB, single]) (Nat.le_of_ble_eq_true rfl) rfl | apply Trace.storeRow ty46 (.plain rfl) (.plain rfl) rfl rfl rfl rfl (by decide) (by simp [AV.oneB, single]) rfl (by omega)
        exact .nil _
      · exact keepOK_of hk hn rfl
      apply WPA.seq
      apply WPA.seq
      refine WPA.ghost (Ghost.toAppv (l := 28) rfl (by simp)) ?_
      refine WPA.weaken (T := [(sl 1, .av (iv .i64 (v))), (sl 2, .av (.loc 2 0)), (sl 4, .av (.loc 4 0)), (sl 6, .av (.loc 6 0)), (bk 2, .blk (.data g.ds)), (bk 4, .blk (.data [.v (.slice none 0 0)])), (bk 6, .blk (.cells [.own 28 g.lat.length])), (bk 28, .blk (.appv (List.replicate g.lat.length nilS)))]) ?_ (St.le_cons rfl (St.le_cons rfl (St.le_cons rfl (St.le_cons rfl (St.le_cons rfl (St.le_cons rfl (St.le_cons rfl (St.le_cons (appv_eq (by simp)) (St.le_nil _)))))))))
      refine WPA.ghost (Ghost.famNil (l := 28) (n := g.lat.length) (by decide) rfl (fun i => by repeat (first | rfl | refine get_skip ?_ rfl)) (fun i => by repeat (first | exact nm_rep | refine nm_appv (rep_ment _) ?_ | refine nm_cons rfl ?_)) (by rw [hk]; simp) (T := (bk 28, .blk (.appv (matC (noRows g.lat.length)))) :: ([(sl 1, .av (iv .i64 (v))), (sl 2, .av (.loc 2 0)), (sl 4, .av (.loc 4 0)), (sl 6, .av (.loc 6 0)), (bk 2, .blk (.data g.ds)), (bk 4, .blk (.data [.v (.slice none 0 0)])), (bk 6, .blk (.cells [.own 28 g.lat.length]))] ++ fam (noRows g.lat.length))) (famNil_T (by repeat (first | exact St.le_refl _ | refine St.le_cons rfl ?_ | exact St.le_nil _)) rfl)) ?_
      apply WPA.region
      · apply Trace.pu [] (.fieldAddr fl25_1 (.plain rfl) rfl)
        first | apply Trace.pu [_] (.loadLoc1D ty23 (.plain rfl) rfl rfl) | apply Trace.pu [_] (.loadLoc1 ty23 (.plain rfl) rfl rfl) | apply Trace.pu [] (.loadRp1 ty23 (.plain rfl) rfl) | apply Trace.pu [_] (.loadCol1 ty23 (.plain rfl) rfl rfl rfl (fun _ => by omega))
        apply Trace.pu [] (.len rfl Try.underlying23 (.plain rfl) rfl)
        apply Trace.pu [] (.move (.plain rfl))
        exact .nil _
      · exact keepOK_of hk hn rfl
      apply WPA.block
      refine WPA.loop (σ := Nat) (fun i => (sl 1, .av (iv .i64 (v))) :: (sl 2, .av (.loc 2 0)) :: (sl 4, .av (.loc 4 0)) :: (sl 6, .av (.loc 6 0)) :: (sl 30, .av (.d (edgesD g.es))) :: (sl 31, .av (iv .i64 (g.es.length))) :: (sl 32, .av (iv .i64 (i))) :: (bk 2, .blk (.data g.ds)) :: (bk 4, .blk (.data [.v (.slice none 0 0)])) :: (bk 6, .blk (.cells [.own 28 g.lat.length])) :: (bk 28, .blk (.appv (matC (g.nextTo i)))) :: fam (g.nextTo i)) (fun i => i ≤ g.es.length) (fun i => g.es.length - i) 0
        (St.le_cons rfl (St.le_cons rfl (St.le_cons rfl (St.le_cons rfl (St.le_cons rfl (St.le_cons rfl (St.le_cons rfl (St.le_cons rfl (St.le_cons rfl (St.le_cons rfl (St.le_cons rfl ((by repeat (first | exact St.le_refl _ | refine le_skip ?_ rfl)))))))))))))) (Nat.zero_le _) fun i hi => ?_
      apply WPA.seq
      apply WPA.region
      · apply Trace.pu [] (.cmp (.plain rfl) (.plain rfl) rfl)
        exact .nil _
      · exact keepOK_of hk hn rfl
      apply WPA.seq
      refine WPA.cond rfl (fun hc3 => ?_) (fun hc3 => ?_)
      · have hlt : i < g.es.length := by simpa using hc3
        obtain ⟨e, he⟩ : ∃ e, g.es.getD i default = e := ⟨_, rfl⟩
        obtain ⟨hem, hef, het, hef0, het0⟩ := he ▸ Gr.edge hok hlt
        obtain ⟨rows, hrows⟩ : ∃ rows, g.nextTo i = rows := ⟨_, rfl⟩
        have hrl : rows.length = g.lat.length := hrows ▸ nextTo_len g i
        have hrb : (rows.getD e.f.toNat []).length ≤ i := hrows ▸ nextTo_row i e.f.toNat
        have hfl : e.f.toNat < rows.length := by rw [hrl]; exact hef
        have hnx : g.nextTo (i + 1) = rows.set e.f.toNat (rows.getD e.f.toNat [] ++ [e.t]) := by
          rw [← hrows, ← he]; rfl
        rw [hrows]
        have hcell := matC_get hfl
        apply WPA.skip
        apply WPA.seq
        apply WPA.block
        apply WPA.seq
        apply WPA.region
        · apply Trace.pu [] ((Pure.indexRows el23 (.plain rfl) (.plain rfl) (fun _ => ⟨by omega, by omega⟩)).to (y := .rp e.ds) (by show AV.rp (g.es.getD i default).ds = _; rw [he]))
          first | apply Trace.pu [_] (.loadAllD ty40 (.plain rfl) rfl (by simp)) | apply Trace.pu [_] (.loadLocD ty40 (.plain rfl) rfl (fun _ => by simp)) | apply Trace.pu [_] (.loadLoc ty40 (.plain rfl) rfl (fun _ => Nat.le_of_ble_eq_true rfl)) | apply Trace.pu [] (.loadRp ty40 (.plain rfl) (fun _ => by decide)) | apply Trace.pu [] (.loadRp ty40 (.plain rfl) (fun _ => Nat.le_of_ble_eq_true rfl)) | apply Trace.pu [_] (.loadCol ty40 (.plain rfl) rfl rfl (fun _ => by decide) (fun _ => by omega)) | apply Trace.pu [_] (.loadArr ty40 (.plain rfl) rfl)
          apply Trace.alloc 8 [] (.data _) zo40 (cellsAs_data _) (freshB_of (fun l hl => by
              simp only [List.mem_singleton] at hl; subst hl
              repeat (first | exact nm_fam | exact nm_but | refine nm_appv (matC_ment (by decide)) ?_ | refine nm_appv (setC_ment (by decide) (by decide)) ?_ | refine nm_cons rfl ?_)))
          first | apply Trace.storeD ty40 (.plain rfl) (.plain rfl) rfl rfl (by simp) (by simp [AV.oneB, single]) (by simp) (spliceL_all (by simp)) | apply Trace.storeD ty40 (.plain rfl) (.plain rfl) rfl rfl (by simp) (by simp [AV.oneB, single]) (by simp) rfl | apply Trace.storeDA ty40 (.plain rfl) (.plain rfl) rfl rfl (by simp) (by simp [AV.oneB, single]) (by simp) rfl | apply Trace.storeLoc ty40 (.plain rfl) (.plain rfl) rfl rfl (by simp) (by simp [AV.oneB, single]) (by simp) rfl | apply Trace.storeRow ty40 (.plain rfl) (.plain rfl) rfl rfl rfl rfl (by decide) (by simp [AV.oneB, single]) rfl (by omega)
          exact .nil _
        · exact keepOK_of hk hn rfl
        refine WPA.weaken (T := (sl 1, .av (iv .i64 (v))) :: (sl 2, .av (.loc 2 0)) :: (sl 4, .av (.loc 4 0)) :: (sl 6, .av (.loc 6 0)) :: (sl 30, .av (.d (edgesD g.es))) :: (sl 31, .av (iv .i64 (g.es.length))) :: (sl 32, .av (iv .i64 (i))) :: (sl 8, .av (.loc 8 0)) :: (bk 2, .blk (.data g.ds)) :: (bk 4, .blk (.data [.v (.slice none 0 0)])) :: (bk 6, .blk (.cells [.own 28 g.lat.length])) :: (bk 8, .blk (.data e.ds)) :: (bk 28, .blk (.appv (matC rows))) :: fam rows) ?_ (St.le_cons rfl (St.le_cons rfl (St.le_cons rfl (St.le_cons rfl (St.le_cons rfl (St.le_cons rfl (St.le_cons rfl (St.le_cons rfl (St.le_cons rfl (St.le_cons rfl (St.le_cons rfl (St.le_cons rfl (St.le_cons rfl ((by repeat (first | exact St.le_refl _ | refine le_skip ?_ rfl))))))))))))))))
        refine WPA.ghost (Ghost.alias' (L := 28) (i := e.f.toNat) (a := inn e.f.toNat) (b := 95) (S' := (sl 1, .av (iv .i64 (v))) :: (sl 2, .av (.loc 2 0)) :: (sl 4, .av (.loc 4 0)) :: (sl 6, .av (.loc 6 0)) :: (sl 30, .av (.d (edgesD g.es))) :: (sl 31, .av (iv .i64 (g.es.length))) :: (sl 32, .av (iv .i64 (i))) :: (sl 8, .av (.loc 8 0)) :: (bk 2, .blk (.data g.ds)) :: (bk 4, .blk (.data [.v (.slice none 0 0)])) :: (bk 6, .blk (.cells [.own 28 g.lat.length])) :: (bk 8, .blk (.data e.ds)) :: famBut rows e.f.toNat) rfl hcell (by repeat (first | exact fam_get hfl | refine get_skip ?_ rfl)) (by unfold inn; omega) (fam_small (by decide)) (by repeat (first | exact nm_fam | refine nm_appv (matC_ment (by decide)) ?_ | refine nm_cons rfl ?_)) (by rw [hk]; simp) (St.le_cons rfl (St.le_cons rfl (St.le_cons rfl (St.le_cons rfl (St.le_cons rfl (St.le_cons rfl (St.le_cons rfl (St.le_cons rfl (St.le_cons rfl (St.le_cons rfl (St.le_cons rfl (St.le_cons rfl ((by repeat (first | exact but_le | refine but_skip ?_ rfl))))))))))))))) (by repeat (first | exact but_self | refine get_skip ?_ rfl))) ?_
        have hcell2 : ((matC rows).set e.f.toNat (.own 95 (rows.getD e.f.toNat []).length))[e.f.toNat]? = some (.own 95 (rows.getD e.f.toNat []).length) := List.getElem?_set_self (by rw [matC_length]; exact hfl)
        apply WPA.draw mixed
        · first | apply Trace.pu [_] (.loadLoc1D ty46 (.plain rfl) rfl rfl) | apply Trace.pu [_] (.loadLoc1 ty46 (.plain rfl) rfl rfl) | apply Trace.pu [] (.loadRp1 ty46 (.plain rfl) rfl) | apply Trace.pu [_] (.loadCol1 ty46 (.plain rfl) rfl rfl rfl (fun _ => by omega))
          apply Trace.pu [] (.fieldAddr fl40_0 (.plain rfl) rfl)
          first | apply Trace.pu [_] (.loadLoc1D ty3 (.plain rfl) rfl rfl) | apply Trace.pu [_] (.loadLoc1 ty3 (.plain rfl) rfl rfl) | apply Trace.pu [] (.loadRp1 ty3 (.plain rfl) rfl) | apply Trace.pu [_] (.loadCol1 ty3 (.plain rfl) rfl rfl rfl (fun _ => by omega))
          first | apply Trace.pu [_] (.loadLoc1D ty46 (.plain rfl) rfl rfl) | apply Trace.pu [_] (.loadLoc1 ty46 (.plain rfl) rfl rfl) | apply Trace.pu [] (.loadRp1 ty46 (.plain rfl) rfl) | apply Trace.pu [_] (.loadCol1 ty46 (.plain rfl) rfl rfl rfl (fun _ => by omega))
          apply Trace.pu [] (.fieldAddr fl40_0 (.plain rfl) rfl)
          first | apply Trace.pu [_] (.loadLoc1D ty3 (.plain rfl) rfl rfl) | apply Trace.pu [_] (.loadLoc1 ty3 (.plain rfl) rfl rfl) | apply Trace.pu [] (.loadRp1 ty3 (.plain rfl) rfl) | apply Trace.pu [_] (.loadCol1 ty3 (.plain rfl) rfl rfl rfl (fun _ => by omega))
          first | apply Trace.pu [] (.indexRows el46 (.plain rfl) (.plain rfl) (fun _ => ⟨by omega, by omega⟩)) | apply Trace.pu [] (.indexOwn el46 (.plain rfl) (.plain rfl) (fun _ => ⟨by omega, by omega⟩)) | apply Trace.pu [] (.indexSl el46 (.plain rfl) (.plain rfl) (fun _ => ⟨by omega, by omega⟩))
          apply Trace.pu [28] (.loadRowV ty22 (.plain rfl) rfl (fun _ => hcell2))
          apply Trace.pu [] (.fieldAddr fl40_1 (.plain rfl) rfl)
          first | apply Trace.pu [_] (.loadLoc1D ty3 (.plain rfl) rfl rfl) | apply Trace.pu [_] (.loadLoc1 ty3 (.plain rfl) rfl rfl) | apply Trace.pu [] (.loadRp1 ty3 (.plain rfl) rfl) | apply Trace.pu [_] (.loadCol1 ty3 (.plain rfl) rfl rfl rfl (fun _ => by omega))
          apply Trace.buildSlice 46 [] so22 zo3 rfl (by decide) (by decide) (.cons (.plain rfl) rfl rfl (Nat.le_of_ble_eq_true rfl) (.nil _ _)) rfl rfl (freshB_of (fun l hl => by
              simp only [List.mem_singleton] at hl; subst hl
              repeat (first | exact nm_fam | exact nm_but | refine nm_appv (matC_ment (by decide)) ?_ | refine nm_appv (setC_ment (by decide) (by decide)) ?_ | refine nm_cons rfl ?_)))
          apply Trace.append 47 [bk 95, bk 46, sl 43, sl 46] ap22 kd22 (by decide) (.own (.plain rfl) rfl) (.own (.plain rfl) rfl) (Col.ones rfl) (labs_ok rfl) (by omega) (by omega) rfl (freshB_of (fun l hl => by
              simp only [List.mem_singleton] at hl; subst hl
              repeat (first | exact nm_fam | exact nm_but | refine nm_appv (matC_ment (by decide)) ?_ | refine nm_appv (setC_ment (by decide) (by decide)) ?_ | refine nm_cons rfl ?_)))
          first | apply Trace.pu [] (.indexRows el46 (.plain rfl) (.plain rfl) (fun _ => ⟨by omega, by omega⟩)) | apply Trace.pu [] (.indexOwn el46 (.plain rfl) (.plain rfl) (fun _ => ⟨by omega, by omega⟩)) | apply Trace.pu [] (.indexSl el46 (.plain rfl) (.plain rfl) (fun _ => ⟨by omega, by omega⟩))
          apply Trace.storeRowV ty22 (.plain rfl) (.plain rfl) rfl rfl rfl (by rw [List.length_set, matC_length]; exact hfl) rfl
          exact .nil _
        · exact drawB_of rfl (by repeat (first | exact freshL_nil | refine freshL_cons (by first | exact rfl | exact (freshB_of (fun l hl => by
    simp only [List.mem_singleton] at hl; subst hl
    repeat (first | exact nm_fam | exact nm_but | refine nm_appv (matC_ment (by decide)) ?_ | refine nm_appv (setC_ment (by decide) (by decide)) ?_ | refine nm_cons rfl ?_)))) ?_))
        · repeat (first | exact keepOK_nil | refine keepOK_cons (by first | exact axOK_of hk hn rfl | exact axOK_blk) ?_)
        refine WPA.weaken (T := (sl 1, .av (iv .i64 (v))) :: (sl 2, .av (.loc 2 0)) :: (sl 4, .av (.loc 4 0)) :: (sl 6, .av (.loc 6 0)) :: (sl 30, .av (.d (edgesD g.es))) :: (sl 31, .av (iv .i64 (g.es.length))) :: (sl 32, .av (iv .i64 (i))) :: (bk 2, .blk (.data g.ds)) :: (bk 4, .blk (.data [.v (.slice none 0 0)])) :: (bk 6, .blk (.cells [.own 28 g.lat.length])) :: (bk 28, .blk (.appv (((matC rows).set e.f.toNat (.own 95 (rows.getD e.f.toNat []).length)).set e.f.toNat (.own 47 ((rows.getD e.f.toNat []).length + 1))))) :: (bk 47, .blk (.app 1 ((rows.getD e.f.toNat []).length + 1) [.ints .i64 (rows.getD e.f.toNat [] ++ [e.t])])) :: famBut rows e.f.toNat) ?_ (St.le_cons rfl (St.le_cons rfl (St.le_cons rfl (St.le_cons rfl (St.le_cons rfl (St.le_cons rfl (St.le_cons rfl (St.le_cons rfl (St.le_cons rfl (St.le_cons rfl (St.le_cons rfl (St.le_cons rfl ((by repeat (first | exact St.le_refl _ | exact but_le | refine but_skip ?_ rfl | refine but_del ?_ rfl)))))))))))))))
        refine WPA.ghost (Ghost.alias' (L := 28) (i := e.f.toNat) (a := 47) (b := inn e.f.toNat) (S' := (sl 1, .av (iv .i64 (v))) :: (sl 2, .av (.loc 2 0)) :: (sl 4, .av (.loc 4 0)) :: (sl 6, .av (.loc 6 0)) :: (sl 30, .av (.d (edgesD g.es))) :: (sl 31, .av (iv .i64 (g.es.length))) :: (sl 32, .av (iv .i64 (i))) :: (bk 2, .blk (.data g.ds)) :: (bk 4, .blk (.data [.v (.slice none 0 0)])) :: (bk 6, .blk (.cells [.own 28 g.lat.length])) :: famBut rows e.f.toNat) rfl (List.getElem?_set_self (by rw [List.length_set, matC_length]; exact hfl)) rfl (by decide) (by repeat (first | exact but_self | refine get_skip ?_ rfl)) (by repeat (first | exact nm_but | refine nm_appv (setC_out (by decide) (by decide)) ?_ | refine nm_cons rfl ?_)) (by rw [hk]; simp) (St.le_cons rfl (St.le_cons rfl (St.le_cons rfl (St.le_cons rfl (St.le_cons rfl (St.le_cons rfl (St.le_cons rfl (St.le_cons rfl (St.le_cons rfl (St.le_cons rfl ((by repeat (first | exact St.le_refl _ | exact but_le | refine but_skip ?_ rfl | refine but_del ?_ rfl))))))))))))) (but_small (by decide))) ?_
        apply WPA.region
        · apply Trace.pu [] (.arith (.plain rfl) (.plain rfl) rfl (fun _ => bd64 (by omega)))
          apply Trace.pu [] (.move (.plain rfl))
          exact .nil _
        · exact keepOK_of hk hn rfl
        refine ⟨i + 1, by omega, by omega, ?_⟩
        rw [hnx]
        exact (St.le_cons rfl (St.le_cons rfl (St.le_cons rfl (St.le_cons rfl (St.le_cons rfl (St.le_cons rfl (St.le_cons (slI (by omega)) (St.le_cons rfl (St.le_cons rfl (St.le_cons rfl (St.le_cons (appv_eq (by rw [List.set_set, List.set_set, ← matC_put]; congr 2; simp)) ((by repeat (first | exact but_back (by repeat (first | exact St.le_refl _ | exact but_le | refine but_skip ?_ rfl | refine but_del ?_ rfl)) (by simp) | refine le_skip ?_ rfl))))))))))))))
      · have him : i = g.es.length := by
          have : ¬ ((i : Int) < g.es.length) := by simpa using hc3
          omega
        subst him
        have hnl : g.next.length = g.lat.length := nextTo_len g _
        refine WPA.weaken (T := (sl 1, .av (iv .i64 (v))) :: (sl 2, .av (.loc 2 0)) :: (sl 4, .av (.loc 4 0)) :: (sl 6, .av (.loc 6 0)) :: (bk 2, .blk (.data g.ds)) :: (bk 4, .blk (.data [.v (.slice none 0 0)])) :: (bk 6, .blk (.cells [.own 28 g.lat.length])) :: (bk 28, .blk (.appv (matC g.next))) :: fam g.next) ?_ (St.le_cons rfl (St.le_cons rfl (St.le_cons rfl (St.le_cons rfl (St.le_cons rfl (St.le_cons rfl (St.le_cons rfl (St.le_cons rfl ((by repeat (first | exact St.le_refl _ | refine le_skip ?_ rfl)))))))))))
        refine WPA.ghost (Ghost.famFreeze (l := 28) (rows := g.next) (S' := [(sl 1, .av (iv .i64 (v))), (sl 2, .av (.loc 2 0)), (sl 4, .av (.loc 4 0)), (sl 6, .av (.loc 6 0)), (bk 2, .blk (.data g.ds)), (bk 4, .blk (.data [.v (.slice none 0 0)])), (bk 6, .blk (.cells [.own 28 g.lat.length]))]) (by decide) rfl (by repeat (first | exact St.le_refl _ | refine le_skip ?_ rfl)) (St.le_cons rfl (St.le_cons rfl (St.le_cons rfl (St.le_cons rfl (St.le_cons rfl (St.le_cons rfl (St.le_cons rfl (St.le_nil _)))))))) (fun i => by repeat (first | rfl | refine get_skip ?_ rfl))) ?_
        refine WPA.weaken (T := [(sl 1, .av (iv .i64 (v))), (sl 2, .av (.loc 2 0)), (sl 4, .av (.loc 4 0)), (sl 6, .av (.loc 6 0)), (bk 2, .blk (.data g.ds)), (bk 4, .blk (.data [.v (.slice none 0 0)])), (bk 6, .blk (.cells [.own 28 g.lat.length])), (bk 28, .blk (.appv ((g.next.map rowD).map .d)))]) ?_ (St.le_cons rfl (St.le_cons rfl (St.le_cons rfl (St.le_cons rfl (St.le_cons rfl (St.le_cons rfl (St.le_cons rfl (St.le_cons (appv_eq (by rw [List.map_map]; rfl)) (St.le_nil _)))))))))
        refine WPA.ghost (Ghost.fromAppv (l := 28) (n := g.lat.length) rfl (by rw [List.length_map]; exact hnl)) ?_
        refine WPA.ghost (Ghost.cellFreeze (lb := 6) (j := 0) (l := 28) (g := fun i => [rowD (g.next.getD i [])]) rfl rfl rfl rfl (fun i hi => by simp [Col.at, List.getD_eq_getElem?_getD, hnl, hi]) rfl) ?_
        refine WPA.weaken (T := [(sl 1, .av (iv .i64 (v))), (sl 2, .av (.loc 2 0)), (sl 4, .av (.loc 4 0)), (sl 6, .av (.loc 6 0)), (bk 2, .blk (.data g.ds)), (bk 4, .blk (.data [.v (.slice none 0 0)])), (bk 6, .blk (.cells [.d (nextD g.next)]))]) ?_ (St.le_cons rfl (St.le_cons rfl (St.le_cons rfl (St.le_cons rfl (St.le_cons rfl (St.le_cons rfl (St.le_cons (by show some (Cont.blk (.cells [.d (.rows 1 g.lat.length _)])) = some (Cont.blk (.cells [.d (.rows 1 g.next.length _)])); rw [hnl]) (St.le_nil _))))))))
        apply WPA.exit
        apply WPA.seq
        apply WPA.region
        · apply Trace.pu [] (.fieldAddr fl25_0 (.plain rfl) rfl)
          first | apply Trace.pu [_] (.loadLoc1D ty22 (.plain rfl) rfl rfl) | apply Trace.pu [_] (.loadLoc1 ty22 (.plain rfl) rfl rfl) | apply Trace.pu [] (.loadRp1 ty22 (.plain rfl) rfl) | apply Trace.pu [_] (.loadCol1 ty22 (.plain rfl) rfl rfl rfl (fun _ => by omega))
          apply Trace.pu [] (.len rfl Try.underlying22 (.plain rfl) rfl)
          apply Trace.makeSlice 53 [] so43 by4 zo4 rfl (by decide) (.plain rfl) (.plain rfl) ⟨by omega, by omega⟩ (by omega) (by omega) rfl rfl
          apply Trace.alloc 9 [] (.data _) zo43 (cellsAs_data _) rfl
          first | apply Trace.storeD ty43 (.plain rfl) (.plain rfl) rfl rfl rfl (by simp [AV.oneB, single]) (Nat.le_of_ble_eq_true rfl) rfl | apply Trace.storeDA ty43 (.plain rfl) (.plain rfl) rfl rfl rfl (by simp [AV.oneB, single]) (Nat.le_of_ble_eq_true rfl) rfl | apply Trace.storeLoc ty43 (.plain rfl) (.plain rfl) rfl rfl rfl (by simp [AV.oneB, single]) (Nat.le_of_ble_eq_true rfl) rfl | apply Trace.storeRow ty43 (.plain rfl) (.plain rfl) rfl rfl rfl rfl (by decide) (by simp [AV.oneB, single]) rfl (by omega)
          exact .nil _
        · exact keepOK_of hk hn rfl
        apply WPA.seq
        apply WPA.region
        · apply Trace.alloc 10 [] (.data _) zo47 (cellsAs_data _) rfl
          exact .nil _
        · exact keepOK_of hk hn rfl
        apply WPA.seq
        apply WPA.region
        · apply Trace.pu [] (.funcL (.cons (.plain rfl) (.cons (.plain rfl) (.cons (.plain rfl) (.cons (.plain rfl) .nil)))))
          first | apply Trace.storeD ty47 (.plain rfl) (.plain rfl) rfl rfl rfl (by simp [AV.oneB, single]) (Nat.le_of_ble_eq_true rfl) rfl | apply Trace.storeDA ty47 (.plain rfl) (.plain rfl) rfl rfl rfl (by simp [AV.oneB, single]) (Nat.le_of_ble_eq_true rfl) rfl | apply Trace.storeLoc ty47 (.plain rfl) (.plain rfl) rfl rfl rfl (by simp [AV.oneB, single]) (Nat.le_of_ble_eq_true rfl) rfl | apply Trace.storeRow ty47 (.plain rfl) (.plain rfl) rfl rfl rfl rfl (by decide) (by simp [AV.oneB, single]) rfl (by omega)
          exact .nil _
        · exact keepOK_of hk hn rfl
        apply WPA.seq
        refine WPA.ghost (Ghost.dataCells (l := 4) rfl rfl) ?_
        refine WPA.ghost (Ghost.cellNil (lb := 4) (j := 0) (l := 90) (cols := [.ints .i64 []]) (n := 1) rfl rfl rfl rfl (by rw [hk]; decide) rfl (by simp [Col.len]) rfl) ?_
        refine WPA.weaken (T := [(sl 1, .av (iv .i64 (v))), (sl 4, .av (.loc 4 0)), (sl 10, .av (.loc 10 0)), (bk 9, .blk (.cells [.own 53 g.lat.length])), (bk 53, .blk (.app 1 g.lat.length [.bools (List.replicate g.lat.length false)])), (bk 4, .blk (.cells [.own 90 0])), (bk 90, .blk (.app 1 0 [.ints .i64 []])), (bk 6, .blk (.cells [.d (nextD g.next)])), (bk 10, .blk (.cells [.fn 23 visA]))]) ?_ (St.le_cons rfl (St.le_cons rfl (St.le_cons rfl (St.le_cons rfl (St.le_cons rfl (St.le_cons rfl (St.le_cons rfl (St.le_cons rfl (St.le_cons rfl (St.le_nil _))))))))))
        have hvis := spec23 (n := g.lat.length) (rows := g.next) hnl (next_ok hok) (fun w => Nat.le_trans (nextTo_row (g := g) g.es.length w) (by omega)) (by omega) g.lat.length ((List.replicate g.lat.length false, []) : DS) v (by simp) hv (by rw [unseen_replicate]; exact Nat.le_refl _) (by rw [unseen_replicate]; simp; omega)
        have hrs : dfs g.next g.lat.length ((List.replicate g.lat.length false, []) : DS) v = g.reachS v := rfl
        rw [hrs] at hvis
        have hpos := reachS_pos hok hv
        have hrl2 := reachS_len hok hv
        have hsr := reach_sorted hok hv
        generalize g.reachS v = r at hvis hpos hrl2 hsr
        apply WPA.region
        · first | apply Trace.pu [_] (.loadLoc1D ty47 (.plain rfl) rfl rfl) | apply Trace.pu [_] (.loadLoc1 ty47 (.plain rfl) rfl rfl) | apply Trace.pu [] (.loadRp1 ty47 (.plain rfl) rfl) | apply Trace.pu [_] (.loadCol1 ty47 (.plain rfl) rfl rfl rfl (fun _ => by omega))
          apply Trace.pu [] (.move (.plain rfl))
          apply Trace.cb [90] [bk 9, bk 53, bk 4, bk 90, bk 6, bk 10] (callArgs (.plain rfl) (.cons (.plain rfl) .nil)) hvis en23 (.cons rfl (.cons rfl (.cons rfl (.cons rfl (.cons rfl (.cons rfl (.nil))))))) rfl rfl
          exact .nil _
        · exact keepOK_of hk hn rfl
        apply WPA.seq
        apply WPA.region
        · first | apply Trace.pu [_] (.loadLoc1D ty22 (.plain rfl) rfl rfl) | apply Trace.pu [_] (.loadLoc1 ty22 (.plain rfl) rfl rfl) | apply Trace.pu [] (.loadRp1 ty22 (.plain rfl) rfl) | apply Trace.pu [_] (.loadCol1 ty22 (.plain rfl) rfl rfl rfl (fun _ => by omega))
          apply Trace.cb [] [bk 90] (callArgs0 (.cons (.plain rfl) .nil)) ((spec24 (xs := r.2) rfl hpos (by omega)).as 0 90 rfl rfl rfl rfl rfl rfl rfl) en24 (.cons rfl .nil) rfl rfl
          exact .nil _
        · exact keepOK_of hk hn rfl
        apply WPA.seq
        apply WPA.region
        · first | apply Trace.pu [_] (.loadLoc1D ty22 (.plain rfl) rfl rfl) | apply Trace.pu [_] (.loadLoc1 ty22 (.plain rfl) rfl rfl) | apply Trace.pu [] (.loadRp1 ty22 (.plain rfl) rfl) | apply Trace.pu [_] (.loadCol1 ty22 (.plain rfl) rfl rfl rfl (fun _ => by omega))
          first | apply Trace.storeD ty22 (.plain rfl) (.plain rfl) rfl rfl rfl (by simp [AV.oneB, single]) (Nat.le_of_ble_eq_true rfl) rfl | apply Trace.storeDA ty22 (.plain rfl) (.plain rfl) rfl rfl rfl (by simp [AV.oneB, single]) (Nat.le_of_ble_eq_true rfl) rfl | apply Trace.storeLoc ty22 (.plain rfl) (.plain rfl) rfl rfl rfl (by simp [AV.oneB, single]) (Nat.le_of_ble_eq_true rfl) rfl | apply Trace.storeRow ty22 (.plain rfl) (.plain rfl) rfl rfl rfl rfl (by decide) (by simp [AV.oneB, single]) rfl (by omega)
          apply Trace.pu [] (.assign (.plain rfl))
          exact .nil _
        · exact keepOK_of hk hn rfl
        refine WPA.ghost (Ghost.cellFreeze (lb := 4) (j := 0) (l := 90) (g := fun i => [Col.at (.ints .i64 (sorted r.2)) i]) rfl rfl rfl rfl (fun i hi => rfl) rfl) ?_
        apply WPA.ret
        refine ⟨.inr rfl, ⟨_, (.cons (.cell1 rfl rfl ty22 rfl) (.cons (.tmp rfl) .nil)), ?_⟩, by simp [St.get]⟩
        have hss : sorted r.2 = g.reachL v := hsr
        have hls : r.2.length = (g.reachL v).length := by rw [← hss, sorted_len]
        rw [hM, hss, hls]; rfl

end Go.Proofs.Ytcnikeonaklkoaa

