import Derived.Test.YtglokdfdogmmhaaPkG
import Derived.Test.YtglokdfdogmmhaaPkE
/- The order of the nodes when no delay is 0, and when all are. No program in sight. -/
namespace Go.Proofs.Ytglokdfdogmmhaa
set_option linter.unusedVariables false
set_option linter.unusedSimpArgs false

abbrev upTo (i : Nat) : List Int := (List.range i).map fun x : Nat => (x : Int)
theorem mem_upTo {i u : Nat} : (u : Int) ∈ upTo i ↔ u < i := by
  simp only [upTo, List.mem_map, List.mem_range]
  constructor
  · rintro ⟨x, hx, e⟩; omega
  · intro h; exact ⟨u, h, rfl⟩
theorem upTo_at {i j : Nat} (h : j < i) : (upTo i).getD j 0 = (j : Int) := by simp [upTo, List.getD_eq_getElem?_getD, h]
theorem seq_nat {g : Gr} {dl : List Int} (hd : ∀ k, k < g.es.length → dl.getD k 0 ≠ 0) : ∀ i, i ≤ g.lat.length → ∃ s, g.seqTo dl i = some s ∧ s.2 = upTo i
  | 0, _ => ⟨_, rfl, rfl⟩
  | i + 1, hi => by
    obtain ⟨s, h1, h2⟩ := seq_nat hd i (by omega)
    have hI := seqTo_inv h1
    have hf : g.firstS dl s.1 = some i := firstS_some.2 ⟨by omega, rdy_iff.2 ⟨by
      cases e : seen s.1 i with
      | false => rfl
      | true =>
        have := (hI.mem i (by omega)).1 e
        rw [h2, mem_upTo] at this; omega, fun k hk _ h0 => absurd h0 (hd k hk)⟩, fun w hw => by
      cases e : g.rdy dl s.1 w with
      | false => rfl
      | true =>
        have h3 := (rdy_iff.1 e).1
        rw [(hI.mem w (by omega)).2 (by rw [h2, mem_upTo]; exact hw)] at h3; cases h3⟩
    refine ⟨_, by rw [seqTo_step h1, hf]; rfl, ?_⟩
    show s.2 ++ [(i : Int)] = _
    rw [h2]; simp [upTo, List.range_succ]
theorem seqE_nat {g : Gr} {dl : List Int} (hd : ∀ k, k < g.es.length → dl.getD k 0 ≠ 0) : g.seqO dl = some (upTo g.lat.length) := by
  obtain ⟨s, h1, h2⟩ := seq_nat hd g.lat.length (Nat.le_refl _)
  unfold Gr.seqO
  rw [h1]
  show some s.2 = _
  rw [h2]
/-- All edges count. -/
theorem seq_acyc {g : Gr} (h : g.OK) {dl : List Int} (h0 : ∀ k, k < g.es.length → dl.getD k 0 = 0) {s : DS} (hs : g.seqTo dl g.lat.length = some s) : (∀ e ∈ g.es, e.f.toNat ≠ e.t.toNat) ∧ ∀ a b, a < g.lat.length → g.Two a b → a = b := by
  have hq := seq_seqd h hs
  have hI := seqTo_inv hs
  have hup : ∀ e ∈ g.es, ∀ i j, i < s.2.length → j < s.2.length → s.2.getD i 0 = ((e.f.toNat : Nat) : Int) → s.2.getD j 0 = ((e.t.toNat : Nat) : Int) → i < j := fun e he i j hi hj e1 e2 => by
    obtain ⟨k, hk, rfl⟩ := List.mem_iff_getElem.1 he
    have hb := Gr.edge h hk
    have := hq.up k hk (h0 k hk) i j hi hj
    rw [getD_lt _ _ hk] at this hb
    exact this (by rw [e1]; omega) (by rw [e2]; omega)
  have hway : ∀ a b, a < g.lat.length → g.Way a b → ∀ i j, i < s.2.length → j < s.2.length → s.2.getD i 0 = (a : Int) → s.2.getD j 0 = (b : Int) → i ≤ j := fun a b ha w => by
    induction w with
    | refl => intro i j hi hj e1 e2; exact Nat.le_of_eq (nodup_getD hI.nd hi hj (by rw [e1, e2]))
    | step he hw ih =>
      intro i j hi hj e1 e2
      obtain ⟨m, hm, hme⟩ := hq.has _ (hw.lt h ha)
      have a1 := ih i m hi hm e1 hme
      have a2 := hup _ he m j hm hj hme e2
      omega
  refine ⟨fun e he hx => ?_, fun a b ha ht => ?_⟩
  · obtain ⟨j, hj, hb⟩ := List.mem_iff_getElem.1 he
    have hb2 := Gr.edge h hj
    rw [getD_lt _ _ hj, hb] at hb2
    obtain ⟨m, hm, hme⟩ := hq.has _ hb2.2.1
    have := hup e he m m hm hm hme (by rw [← hx]; exact hme)
    omega
  · have hb := ht.1.lt h ha
    obtain ⟨i, hi, hie⟩ := hq.has a ha
    obtain ⟨j, hj, hje⟩ := hq.has b hb
    have h1 := hway a b ha ht.1 i j hi hj hie hje
    have h2 := hway b a hb ht.2 j i hj hi hje hie
    have : i = j := by omega
    subst this
    omega
theorem find_congr {p q : Nat → Bool} : ∀ {l : List Nat}, (∀ x ∈ l, p x = q x) → l.find? p = l.find? q
  | [], _ => rfl
  | x :: l, h => by
    rw [List.find?_cons, List.find?_cons, h x (by simp), find_congr (l := l) fun y hy => h y (by simp [hy])]
theorem seq_parts {g : Gr} (h : g.OK) {dl : List Int} (h0 : ∀ k, k < g.es.length → dl.getD k 0 = 0) {s : DS} (hs : g.seqTo dl g.lat.length = some s) : g.partsR = oneEach s.2 := by
  obtain ⟨hself, htwo⟩ := seq_acyc h h0 hs
  have key : ∀ k, k ≤ g.lat.length → ∀ a, g.seqTo dl k = some a → g.refTo k = (a.1, oneEach a.2) := by
    intro k
    induction k with
    | zero =>
      intro _ a ha
      have ha : some ((List.replicate g.lat.length false, []) : DS) = some a := ha
      injection ha with ha
      subst ha; rfl
    | succ k ih =>
      intro hk b hb
      obtain ⟨a, v, h1, h2, h3, h4⟩ := seqTo_back hb k (by omega)
      have e := ih (by omega) a h1
      have hst := seqTo_step h1
      rw [h2, hb] at hst
      have hst : some b = some ((a.1.set v true, a.2 ++ [(v : Int)]) : DS) := hst
      injection hst with hst
      subst hst
      have hR := refTo_inv h k
      rw [e] at hR
      have hI := seqTo_inv h1
      have hv := (firstS_some.1 h2).1
      have hf : g.firstR a.1 = some v := by
        rw [← h2]
        unfold Gr.firstR Gr.firstS
        refine find_congr fun u hu => ?_
        have hu : u < g.lat.length := by simpa using hu
        rw [Bool.eq_iff_iff, rdy_iff]
        unfold Gr.candR
        rw [Bool.and_eq_true, Bool.not_eq_true', nextR_iff h hu]
        constructor
        · rintro ⟨a1, a2⟩
          refine ⟨a1, fun i hi ht _ => ?_⟩
          obtain ⟨hem, hef, het, hef0, het0⟩ := Gr.edge h hi
          have hw : g.Way (g.es.getD i default).f.toNat u := by
            have := Gr.Way.step hem (.refl (g := g) (v := (g.es.getD i default).f.toNat))
            rwa [ht] at this
          refine a2 _ hef hw fun hb => ?_
          have h5 := htwo _ _ hef ⟨hw, hb⟩
          exact hself _ hem (by rw [h5, ht]; simp)
        · rintro ⟨a1, a2⟩
          refine ⟨a1, fun w hw hwu hnb => ?_⟩
          cases hwu with
          | refl => exact absurd .refl hnb
          | step he hw2 =>
            rename_i ed
            obtain ⟨j, hj, hje⟩ := List.mem_iff_getElem.1 he
            have hb2 := Gr.edge h hj
            have h5 := a2 j hj
            rw [getD_lt _ _ hj, hje] at h5 hb2
            have h6 := h5 (by omega) (h0 j hj)
            exact hR.anc w _ hw hb2.2.1 hw2 h6
      have hstep := (hR.step h hf).1
      show g.stepR (g.refTo k) = _
      rw [e, hstep]
      have hmut : ∀ u, u < g.lat.length → (g.mutR v u = true ↔ u = v) := fun u hu => by
        rw [mutR_iff h hv hu]
        exact ⟨fun ht => (htwo v u hv ht).symm, fun e => by subst e; exact ⟨.refl, .refl⟩⟩
      have e1 : g.plTo a.1 v g.lat.length = a.1.set v true := by
        refine seen_ext (by rw [plTo_len, List.length_set]) fun u => ?_
        rw [Bool.eq_iff_iff, plTo_seen g a.1 v _ (by rw [hI.len]; exact Nat.le_refl _), seen_set (by rw [hI.len]; exact hv)]
        by_cases hvu : v = u
        · subst hvu; rw [if_pos rfl]; exact ⟨fun _ => rfl, fun _ => .inr ⟨hv, (hmut v hv).2 rfl⟩⟩
        · rw [if_neg hvu]
          exact ⟨fun h => h.elim id fun h => absurd ((hmut u h.1).1 h.2).symm hvu, .inl⟩
      have e2 : g.partTo v g.lat.length = [(v : Int)] := by
        refine sorted_ext (partTo_lt g v _) (by simp) fun x => ?_
        rw [mem_partTo, List.mem_singleton]
        constructor
        · rintro ⟨u, rfl, hu, hm⟩; rw [(hmut u hu).1 hm]
        · rintro rfl; exact ⟨v, rfl, hv, (hmut v hv).2 rfl⟩
      show (g.plTo a.1 v g.lat.length, oneEach a.2 ++ [g.partTo v g.lat.length]) = (a.1.set v true, oneEach (a.2 ++ [(v : Int)]))
      rw [e1, e2]; simp [oneEach]
  have := key g.lat.length (Nat.le_refl _) s hs
  unfold Gr.partsR
  rw [this]

end Go.Proofs.Ytglokdfdogmmhaa

/- OrderPlain. -/
namespace Go.Proofs.Ytglokdfdogmmhaa
open Go
set_option linter.unusedVariables false
set_option linter.unusedSimpArgs false
set_option maxRecDepth 10000
set_option maxHeartbeats 1000000

def mxTo (dl : List Int) : Nat → List Int
  | 0 => List.replicate dl.length 0
  | i + 1 => (mxTo dl i).set i (max (dl.getD i 0) 1)
theorem mxTo_len (dl : List Int) : ∀ i, (mxTo dl i).length = dl.length
  | 0 => by simp [mxTo]
  | i + 1 => by rw [mxTo, List.length_set, mxTo_len dl i]
theorem mxTo_at {dl : List Int} (k : Nat) : ∀ i, i ≤ dl.length → k < i → 1 ≤ (mxTo dl i).getD k 0
  | 0, _, h => by omega
  | i + 1, hi, h => by
    rw [mxTo, getDI_set, mxTo_len]
    by_cases e : i = k
    · rw [if_pos ⟨e, by omega⟩]; omega
    · rw [if_neg (fun h => e h.1)]; exact mxTo_at k i (by omega) (by omega)
theorem bad_of {g : Gr} {dl : List Int} (hl : dl.length = g.es.length) (h : ∀ x ∈ dl, 0 ≤ x) : g.dlBad dl = false := by
  unfold Gr.dlBad
  rw [decide_eq_true hl, Bool.or_eq_false_iff]
  refine ⟨rfl, List.any_eq_false.2 fun x hx => ?_⟩
  have := h x hx
  simp only [decide_eq_true_eq]; omega
theorem seqE_mx {g : Gr} (hC : g.check = 0) {dl : List Int} (hl : dl.length = g.es.length) : g.seqE (mxTo dl dl.length) = (upTo g.lat.length, 0) := by
  have hB : g.dlBad (mxTo dl dl.length) = false := bad_of (by rw [mxTo_len, hl]) fun x hx => by
    obtain ⟨j, hj, rfl⟩ := List.mem_iff_getElem.1 hx
    have := mxTo_at (dl := dl) j dl.length (Nat.le_refl _) (by rw [mxTo_len] at hj; exact hj)
    rw [getD_lt _ _ hj] at this; omega
  unfold Gr.seqE
  rw [if_neg (fun e => e hC), if_neg (by rw [hB]; decide), seqE_nat fun k hk => by have := mxTo_at (dl := dl) k dl.length (Nat.le_refl _) (by omega); omega]
/-- soundpost/soundpostlaw22.OrderPlain -/
theorem spec7 (g : Gr) (hz : g.Sz) (dl : List Int) (hd : dl.length ≤ 4611686018427387904) : FnSpec Try.prog 7 [g.av, .d (intsD dl)] [] (bv true) [] [] := by
  have hn1 := hz.n
  have hn2 := hz.m
  refine fnSpec_of (rs := [.tmp 4]) Try.func7 rfl rfl (Nat.le_of_ble_eq_true rfl) (by simp [St.get]) fun E hk hn => ?_
  apply WPA.seq
  apply WPA.region
  · first | apply Trace.boxD 2 [] (.plain rfl) rfl rfl | apply Trace.box 2 [] (.plain rfl) rfl rfl rfl
    apply Trace.pu [] (.assign (.plain rfl))
    exact .nil _
  · exact keepOK_of hk hn rfl
  apply WPA.seq
  apply WPA.seq
  apply WPA.region
  · apply Trace.cu (callArgs0 .nil) spec9 en9
    apply Trace.pu [] (.not (.plain rfl))
    exact .nil _
  · exact keepOK_of hk hn rfl
  refine WPA.cond rfl (fun hc1 => ?_) (fun hc1 => ?_)
  · cases hc1
  · apply WPA.skip
    apply WPA.seq
    apply WPA.seq
    apply WPA.region
    · first | apply Trace.pu [_] (.loadAllD ty25 (.plain rfl) rfl (by simp)) | apply Trace.pu [_] (.loadLocD ty25 (.plain rfl) rfl (fun _ => by simp)) | apply Trace.pu [_] (.loadLoc ty25 (.plain rfl) rfl (fun _ => Nat.le_of_ble_eq_true rfl)) | apply Trace.pu [] (.loadRp ty25 (.plain rfl) (fun _ => by decide)) | apply Trace.pu [] (.loadRp ty25 (.plain rfl) (fun _ => Nat.le_of_ble_eq_true rfl)) | apply Trace.pu [_] (.loadCol ty25 (.plain rfl) rfl rfl (fun _ => by decide) (fun _ => by omega)) | apply Trace.pu [_] (.loadArr ty25 (.plain rfl) rfl)
      apply Trace.pu [] (.move (.plain rfl))
      apply Trace.cu (callArgs0 (.cons (.plain rfl) (.cons (.plain rfl) .nil))) (spec20 g hz dl hd) en20
      apply Trace.pu [] (.not (.plain rfl))
      exact .nil _
    · exact keepOK_of hk hn rfl
    refine WPA.cond rfl (fun hc2 => ?_) (fun hc2 => ?_)
    · apply WPA.seq
      apply WPA.region
      · apply Trace.pu [] (.assign (.plain rfl))
        exact .nil _
      · exact keepOK_of hk hn rfl
      apply WPA.ret
      refine ⟨.inr rfl, ⟨_, (.cons (.tmp rfl) .nil), ?_⟩, by simp [St.get]⟩
      rfl
    · have hS : g.short22 dl = true := by simpa using hc2
      obtain ⟨hf, hC, hdl, hB⟩ := short22_of hS
      obtain ⟨h12, h40⟩ := few22_of hf
      have hok := check_ok2 hC
      have hul : (upTo g.lat.length).length = g.lat.length := by simp
      apply WPA.skip
      apply WPA.seq
      apply WPA.draw mixed
      · apply Trace.pu [] (.move (.plain rfl))
        apply Trace.pu [] (.len rfl Try.underlying22 (.plain rfl) rfl)
        apply Trace.makeSlice 25 [] so22 by3 zo3 rfl (by decide) (.plain rfl) (.plain rfl) ⟨by omega, by omega⟩ (by omega) (by omega) rfl rfl
        apply Trace.pu [] (.move (.plain rfl))
        apply Trace.pu [] (.len rfl Try.underlying22 (.plain rfl) rfl)
        apply Trace.makeSlice 28 [] so22 by3 zo3 rfl (by decide) (.plain rfl) (.plain rfl) ⟨by omega, by omega⟩ (by omega) (by omega) rfl rfl
        apply Trace.pu [] (.assign (.plain rfl))
        apply Trace.pu [] (.assign (.plain rfl))
        exact .nil _
      · rfl
      · exact keepOK_of hk hn rfl
      apply WPA.seq
      apply WPA.seq
      apply WPA.region
      · apply Trace.pu [] (.move (.plain rfl))
        apply Trace.pu [] (.len rfl Try.underlying22 (.plain rfl) rfl)
        apply Trace.pu [] (.move (.plain rfl))
        exact .nil _
      · exact keepOK_of hk hn rfl
      apply WPA.block
      refine WPA.loop (σ := Nat) (fun i => [(sl 1, .av (.d (intsD dl))), (sl 2, .av (.loc 2 0)), (sl 5, .av (.own 25 dl.length)), (sl 6, .av (.own 28 dl.length)), (sl 29, .av (.d (intsD dl))), (sl 30, .av (iv .i64 (dl.length))), (sl 31, .av (iv .i64 (i))), (bk 2, .blk (.data g.ds)), (bk 25, .blk (.app 1 dl.length [.ints .i64 (List.replicate dl.length 0)])), (bk 28, .blk (.app 1 dl.length [.ints .i64 (mxTo dl i)]))]) (fun i => i ≤ dl.length) (fun i => dl.length - i) 0
        (St.le_cons rfl (St.le_cons rfl (St.le_cons rfl (St.le_cons rfl (St.le_cons rfl (St.le_cons rfl (St.le_cons rfl (St.le_cons rfl (St.le_cons rfl (St.le_cons rfl (St.le_nil _))))))))))) (Nat.zero_le _) fun i hi => ?_
      apply WPA.seq
      apply WPA.region
      · apply Trace.pu [] (.cmp (.plain rfl) (.plain rfl) rfl)
        exact .nil _
      · exact keepOK_of hk hn rfl
      apply WPA.seq
      refine WPA.cond rfl (fun hc3 => ?_) (fun hc3 => ?_)
      · have hlt : i < dl.length := by simpa using hc3
        have hml := mxTo_len dl i
        apply WPA.skip
        apply WPA.seq
        apply WPA.block
        apply WPA.seq
        apply WPA.region
        · apply Trace.pu [] (.move (.plain rfl))
          first | apply Trace.pu [] (.indexRows el22 (.plain rfl) (.plain rfl) (fun _ => ⟨by omega, by omega⟩)) | apply Trace.pu [] (.indexOwn el22 (.plain rfl) (.plain rfl) (fun _ => ⟨by omega, by omega⟩)) | apply Trace.pu [] (.indexSl el22 (.plain rfl) (.plain rfl) (fun _ => ⟨by omega, by omega⟩))
          first | apply Trace.pu [_] (.loadLoc1D ty3 (.plain rfl) rfl rfl) | apply Trace.pu [_] (.loadLoc1 ty3 (.plain rfl) rfl rfl) | apply Trace.pu [] (.loadRp1 ty3 (.plain rfl) rfl) | apply Trace.pu [_] (.loadCol1 ty3 (.plain rfl) rfl rfl rfl (fun _ => by omega))
          apply Trace.pu [] (.assign (.plain rfl))
          apply Trace.pu [] (.assign (.plain rfl))
          exact .nil _
        · exact keepOK_of hk hn rfl
        apply WPA.region
        · apply Trace.pu [] (.move (.plain rfl))
          apply Trace.pu [] (.move (.plain rfl))
          apply Trace.pu [] (.move (.plain rfl))
          apply Trace.pu [] (.max2 (.plain rfl) (.plain rfl))
          first | apply Trace.pu [] (.indexRows el22 (.plain rfl) (.plain rfl) (fun _ => ⟨by omega, by omega⟩)) | apply Trace.pu [] (.indexOwn el22 (.plain rfl) (.plain rfl) (fun _ => ⟨by omega, by omega⟩)) | apply Trace.pu [] (.indexSl el22 (.plain rfl) (.plain rfl) (fun _ => ⟨by omega, by omega⟩))
          first | apply Trace.storeD ty3 (.plain rfl) (.plain rfl) rfl rfl rfl (by simp [AV.oneB, single]) (Nat.le_of_ble_eq_true rfl) rfl | apply Trace.storeDA ty3 (.plain rfl) (.plain rfl) rfl rfl rfl (by simp [AV.oneB, single]) (Nat.le_of_ble_eq_true rfl) rfl | apply Trace.storeLoc ty3 (.plain rfl) (.plain rfl) rfl rfl rfl (by simp [AV.oneB, single]) (Nat.le_of_ble_eq_true rfl) rfl | apply Trace.storeRow ty3 (.plain rfl) (.plain rfl) rfl rfl rfl rfl (by decide) (by simp [AV.oneB, single]) rfl (by omega)
          exact .nil _
        · exact keepOK_of hk hn rfl
        apply WPA.region
        · apply Trace.pu [] (.arith (.plain rfl) (.plain rfl) rfl (fun _ => bd64 (by omega)))
          apply Trace.pu [] (.move (.plain rfl))
          exact .nil _
        · exact keepOK_of hk hn rfl
        refine ⟨i + 1, by omega, by omega, ?_⟩
        exact (St.le_cons rfl (St.le_cons rfl (St.le_cons rfl (St.le_cons rfl (St.le_cons rfl (St.le_cons rfl (St.le_cons (slI (by omega)) (St.le_cons rfl (St.le_cons rfl (St.le_cons rfl (St.le_nil _)))))))))))
      · have hie : i = dl.length := by
          have : ¬ ((i : Int) < dl.length) := by simpa using hc3
          omega
        subst hie
        have hml := mxTo_len dl dl.length
        refine WPA.ghost (Ghost.freezeAs (t := 5) (l := 25) (g := fun i => [Col.at (.ints .i64 (List.replicate dl.length 0)) i]) rfl rfl (fun i hi => rfl)) ?_
        refine WPA.ghost (Ghost.freezeAs (t := 6) (l := 28) (g := fun i => [Col.at (.ints .i64 (mxTo dl dl.length)) i]) rfl rfl (fun i hi => rfl)) ?_
        refine WPA.weaken (T := [(sl 2, .av (.loc 2 0)), (sl 5, .av (.d (intsD (List.replicate dl.length 0)))), (sl 6, .av (.d (intsD (mxTo dl dl.length)))), (bk 2, .blk (.data g.ds))]) ?_ (St.le_cons rfl (St.le_cons (by show some (Cont.av (.d (.rows 1 dl.length _))) = some (Cont.av (.d (.rows 1 (List.replicate dl.length (0 : Int)).length _))); rw [List.length_replicate]; rfl) (St.le_cons (by show some (Cont.av (.d (.rows 1 dl.length _))) = some (Cont.av (.d (.rows 1 (mxTo dl dl.length).length _))); rw [hml]; rfl) (St.le_cons rfl (St.le_nil _)))))
        apply WPA.exit
        apply WPA.seq
        apply WPA.region
        · first | apply Trace.pu [_] (.loadAllD ty25 (.plain rfl) rfl (by simp)) | apply Trace.pu [_] (.loadLocD ty25 (.plain rfl) rfl (fun _ => by simp)) | apply Trace.pu [_] (.loadLoc ty25 (.plain rfl) rfl (fun _ => Nat.le_of_ble_eq_true rfl)) | apply Trace.pu [] (.loadRp ty25 (.plain rfl) (fun _ => by decide)) | apply Trace.pu [] (.loadRp ty25 (.plain rfl) (fun _ => Nat.le_of_ble_eq_true rfl)) | apply Trace.pu [_] (.loadCol ty25 (.plain rfl) rfl rfl (fun _ => by decide) (fun _ => by omega)) | apply Trace.pu [_] (.loadArr ty25 (.plain rfl) rfl)
          apply Trace.pu [] (.move (.plain rfl))
          apply Trace.ct (callArgs0 (.cons (.plain rfl) (.cons (.plain rfl) .nil))) (seN hz (by omega) (seqE_mx hC hdl)) en13
          apply Trace.pu [] (.move (.plain rfl))
          apply Trace.pu [] (.extract (.plain rfl) rfl)
          apply Trace.pu [] (.extract (.plain rfl) rfl)
          apply Trace.pu [] (.assign (.plain rfl))
          apply Trace.pu [] (.assign (.plain rfl))
          exact .nil _
        · exact keepOK_of hk hn rfl
        apply WPA.seq
        apply WPA.seq
        apply WPA.region
        · apply Trace.pu [] (.move (.plain rfl))
          apply Trace.pu [] (.cmp (.plain rfl) (.plain rfl) rfl)
          apply Trace.pu [] (.move (.plain rfl))
          apply Trace.pg [] rfl (.move (.plain rfl))
          apply Trace.pg [] rfl (.len rfl Try.underlying22 (.gd rfl (fun h => h)) rfl)
          apply Trace.pg [] rfl (.fieldAddr fl25_0 (.plain rfl) rfl)
          first | apply Trace.pg [_] rfl (.loadLoc1D ty22 (.gd rfl (fun h => h)) rfl rfl) | apply Trace.pg [_] rfl (.loadLoc1 ty22 (.gd rfl (fun h => h)) rfl rfl) | apply Trace.pg [] rfl (.loadRp1 ty22 (.gd rfl (fun h => h)) rfl) | apply Trace.pg [_] rfl (.loadCol1 ty22 (.gd rfl (fun h => h)) rfl rfl rfl (fun _ => by omega))
          apply Trace.pg [] rfl (.len rfl Try.underlying22 (.gd rfl (fun h => h)) rfl)
          apply Trace.pg [] rfl ((Pure.cmp (.gd rfl (fun h => h)) (.gd rfl (fun h => h)) rfl).to (y := bv false) (by show bv (!decide (((upTo g.lat.length).length : Int) = (g.lat.length : Int))) = _; rw [decide_eq_true (by omega)]; rfl))
          apply Trace.pu [] (.pick (.plain rfl) (.plain rfl) (.gd rfl (by simp)))
          exact .nil _
        · exact keepOK_of hk hn rfl
        refine WPA.cond rfl (fun hc4 => ?_) (fun hc4 => ?_)
        · cases hc4
        · apply WPA.skip
          apply WPA.seq
          apply WPA.seq
          apply WPA.region
          · apply Trace.pu [] (.move (.plain rfl))
            apply Trace.pu [] (.len rfl Try.underlying22 (.plain rfl) rfl)
            apply Trace.pu [] (.move (.plain rfl))
            exact .nil _
          · exact keepOK_of hk hn rfl
          apply WPA.block
          refine WPA.loop (σ := Nat) (fun i => [(sl 2, .av (.loc 2 0)), (sl 5, .av (.d (intsD (List.replicate dl.length 0)))), (sl 58, .av (.d (intsD (upTo g.lat.length)))), (sl 59, .av (iv .i64 ((upTo g.lat.length).length))), (sl 60, .av (iv .i64 (i))), (bk 2, .blk (.data g.ds))]) (fun i => i ≤ g.lat.length) (fun i => g.lat.length - i) 0
            (St.le_cons rfl (St.le_cons rfl (St.le_cons rfl (St.le_cons rfl (St.le_cons rfl (St.le_cons rfl (St.le_nil _))))))) (Nat.zero_le _) fun i hi => ?_
          apply WPA.seq
          apply WPA.region
          · apply Trace.pu [] (.cmp (.plain rfl) (.plain rfl) rfl)
            exact .nil _
          · exact keepOK_of hk hn rfl
          apply WPA.seq
          refine WPA.cond rfl (fun hc5 => ?_) (fun hc5 => ?_)
          · have hlt : i < g.lat.length := by
              have : (i : Int) < (upTo g.lat.length).length := of_decide_eq_true hc5
              omega
            apply WPA.skip
            apply WPA.seq
            apply WPA.block
            apply WPA.seq
            apply WPA.region
            · apply Trace.pu [] (.move (.plain rfl))
              first | apply Trace.pu [] (.indexRows el22 (.plain rfl) (.plain rfl) (fun _ => ⟨by omega, by omega⟩)) | apply Trace.pu [] (.indexOwn el22 (.plain rfl) (.plain rfl) (fun _ => ⟨by omega, by omega⟩)) | apply Trace.pu [] (.indexSl el22 (.plain rfl) (.plain rfl) (fun _ => ⟨by omega, by omega⟩))
              apply Trace.pu [] ((Pure.loadRp1 ty3 (.plain rfl) rfl).to (y := iv .i64 (i : Nat)) (by exact congrArg (iv .i64) (upTo_at hlt)))
              apply Trace.pu [] (.assign (.plain rfl))
              apply Trace.pu [] (.assign (.plain rfl))
              exact .nil _
            · exact keepOK_of hk hn rfl
            apply WPA.seq
            apply WPA.region
            · apply Trace.pu [] (.move (.plain rfl))
              apply Trace.pu [] (.move (.plain rfl))
              apply Trace.pu [] (.cmp (.plain rfl) (.plain rfl) rfl)
              exact .nil _
            · exact keepOK_of hk hn rfl
            refine WPA.cond rfl (fun hc6 => ?_) (fun hc6 => ?_)
            · simp at hc6
            · apply WPA.skip
              apply WPA.region
              · apply Trace.pu [] (.arith (.plain rfl) (.plain rfl) rfl (fun _ => bd64 (by omega)))
                apply Trace.pu [] (.move (.plain rfl))
                exact .nil _
              · exact keepOK_of hk hn rfl
              refine ⟨i + 1, by omega, by omega, ?_⟩
              exact (St.le_cons rfl (St.le_cons rfl (St.le_cons rfl (St.le_cons rfl (St.le_cons (slI (by omega)) (St.le_cons rfl (St.le_nil _)))))))
          · apply WPA.exit
            apply WPA.seq
            have hB0 : g.dlBad (List.replicate dl.length 0) = false := bad_of (by simpa using hdl) (fun x hx => by rw [(List.mem_replicate.1 hx).2]; exact Int.le_refl _)
            have hz0 : ∀ k, k < g.es.length → (List.replicate dl.length (0 : Int)).getD k 0 = 0 := fun k hk => by simp [List.getD_eq_getElem?_getD, List.getElem?_replicate]; split <;> rfl
            rcases seqE_cases hB0 with ⟨s, hs, hso⟩ | ⟨hs, hso⟩
            · have hE : g.seqE (List.replicate dl.length 0) = (s.2, 0) := seqE_ok hC hB0 hs
              have hpr := seq_parts hok hz0 hs
              have hsl := (seq_seqd hok hs).len
              apply WPA.region
              · first | apply Trace.pu [_] (.loadAllD ty25 (.plain rfl) rfl (by simp)) | apply Trace.pu [_] (.loadLocD ty25 (.plain rfl) rfl (fun _ => by simp)) | apply Trace.pu [_] (.loadLoc ty25 (.plain rfl) rfl (fun _ => Nat.le_of_ble_eq_true rfl)) | apply Trace.pu [] (.loadRp ty25 (.plain rfl) (fun _ => by decide)) | apply Trace.pu [] (.loadRp ty25 (.plain rfl) (fun _ => Nat.le_of_ble_eq_true rfl)) | apply Trace.pu [_] (.loadCol ty25 (.plain rfl) rfl rfl (fun _ => by decide) (fun _ => by omega)) | apply Trace.pu [_] (.loadArr ty25 (.plain rfl) rfl)
                apply Trace.pu [] (.move (.plain rfl))
                apply Trace.ct (callArgs0 (.cons (.plain rfl) (.cons (.plain rfl) .nil))) (seN hz (by simpa using hd) hE) en13
                apply Trace.pu [] (.move (.plain rfl))
                apply Trace.pu [] (.extract (.plain rfl) rfl)
                apply Trace.pu [] (.extract (.plain rfl) rfl)
                apply Trace.pu [] (.assign (.plain rfl))
                apply Trace.pu [] (.assign (.plain rfl))
                exact .nil _
              · exact keepOK_of hk hn rfl
              apply WPA.seq
              apply WPA.region
              · first | apply Trace.pu [_] (.loadAllD ty25 (.plain rfl) rfl (by simp)) | apply Trace.pu [_] (.loadLocD ty25 (.plain rfl) rfl (fun _ => by simp)) | apply Trace.pu [_] (.loadLoc ty25 (.plain rfl) rfl (fun _ => Nat.le_of_ble_eq_true rfl)) | apply Trace.pu [] (.loadRp ty25 (.plain rfl) (fun _ => by decide)) | apply Trace.pu [] (.loadRp ty25 (.plain rfl) (fun _ => Nat.le_of_ble_eq_true rfl)) | apply Trace.pu [_] (.loadCol ty25 (.plain rfl) rfl rfl (fun _ => by decide) (fun _ => by omega)) | apply Trace.pu [_] (.loadArr ty25 (.plain rfl) rfl)
                first | apply Trace.ct (callArgs0 (.cons (.plain rfl) .nil)) (paN hz h12 (l := oneEach s.2) (c := 0) (by rw [if_pos hC, hC, hpr])) en11 | apply Trace.ct (callArgs0 (.cons (.plain rfl) .nil)) (paN hz h12 (l := g.partsR) (c := 0) (by rw [if_pos hC, hC])) en11
                apply Trace.pu [] (.move (.plain rfl))
                apply Trace.pu [] (.extract (.plain rfl) rfl)
                apply Trace.pu [] (.extract (.plain rfl) rfl)
                apply Trace.pu [] (.assign (.plain rfl))
                apply Trace.pu [] (.assign (.plain rfl))
                exact .nil _
              · exact keepOK_of hk hn rfl
              apply WPA.seq
              apply WPA.seq
              apply WPA.region
              · apply Trace.pu [] (.move (.plain rfl))
                apply Trace.pu [] (.cmp (.plain rfl) (.plain rfl) rfl)
                exact .nil _
              · exact keepOK_of hk hn rfl
              refine WPA.cond rfl (fun hc7 => ?_) (fun hc7 => ?_)
              · cases hc7
              · apply WPA.skip
                apply WPA.seq
                apply WPA.region
                · apply Trace.pu [] (.move (.plain rfl))
                  apply Trace.pu [] (.cmp (.plain rfl) (.plain rfl) rfl)
                  apply Trace.pu [] (.move (.plain rfl))
                  apply Trace.pg [] rfl (.move (.plain rfl))
                  apply Trace.pg [] rfl (.move (.plain rfl))
                  apply Trace.cg rfl (callArgs0 (.cons (.gd rfl (fun h => h)) .nil)) (fun _ => spec21 s.2 (by omega)) en21
                  apply Trace.cg rfl (callArgs0 (.cons (.gd rfl (fun h => h)) (.cons (.gd rfl (fun h => h)) .nil))) (fun _ => saT (a := oneEach s.2) (by simp; omega) (fun i => by have := total_row (oneEach s.2) i; rw [oneEach_total] at this; omega)) en15
                  apply Trace.pu [] (.pick (.plain rfl) (.gd rfl (by simp)) (.plain rfl))
                  apply Trace.pu [] (.assign (.plain rfl))
                  exact .nil _
                · exact keepOK_of hk hn rfl
                apply WPA.ret
                refine ⟨.inr rfl, ⟨_, (.cons (.tmp rfl) .nil), ?_⟩, by simp [St.get]⟩
                rfl
            · have hE : g.seqE (List.replicate dl.length 0) = ([], 211) := by
                unfold Gr.seqE
                rw [if_neg (fun e => e hC), if_neg (by rw [hB0]; decide), hso]
              apply WPA.region
              · first | apply Trace.pu [_] (.loadAllD ty25 (.plain rfl) rfl (by simp)) | apply Trace.pu [_] (.loadLocD ty25 (.plain rfl) rfl (fun _ => by simp)) | apply Trace.pu [_] (.loadLoc ty25 (.plain rfl) rfl (fun _ => Nat.le_of_ble_eq_true rfl)) | apply Trace.pu [] (.loadRp ty25 (.plain rfl) (fun _ => by decide)) | apply Trace.pu [] (.loadRp ty25 (.plain rfl) (fun _ => Nat.le_of_ble_eq_true rfl)) | apply Trace.pu [_] (.loadCol ty25 (.plain rfl) rfl rfl (fun _ => by decide) (fun _ => by omega)) | apply Trace.pu [_] (.loadArr ty25 (.plain rfl) rfl)
                apply Trace.pu [] (.move (.plain rfl))
                apply Trace.ct (callArgs0 (.cons (.plain rfl) (.cons (.plain rfl) .nil))) (seN hz (by simpa using hd) hE) en13
                apply Trace.pu [] (.move (.plain rfl))
                apply Trace.pu [] (.extract (.plain rfl) rfl)
                apply Trace.pu [] (.extract (.plain rfl) rfl)
                apply Trace.pu [] (.assign (.plain rfl))
                apply Trace.pu [] (.assign (.plain rfl))
                exact .nil _
              · exact keepOK_of hk hn rfl
              apply WPA.seq
              apply WPA.region
              · first | apply Trace.pu [_] (.loadAllD ty25 (.plain rfl) rfl (by simp)) | apply Trace.pu [_] (.loadLocD ty25 (.plain rfl) rfl (fun _ => by simp)) | apply Trace.pu [_] (.loadLoc ty25 (.plain rfl) rfl (fun _ => Nat.le_of_ble_eq_true rfl)) | apply Trace.pu [] (.loadRp ty25 (.plain rfl) (fun _ => by decide)) | apply Trace.pu [] (.loadRp ty25 (.plain rfl) (fun _ => Nat.le_of_ble_eq_true rfl)) | apply Trace.pu [_] (.loadCol ty25 (.plain rfl) rfl rfl (fun _ => by decide) (fun _ => by omega)) | apply Trace.pu [_] (.loadArr ty25 (.plain rfl) rfl)
                first | apply Trace.ct (callArgs0 (.cons (.plain rfl) .nil)) (paN hz h12 (l := oneEach s.2) (c := 0) (by rw [if_pos hC, hC, hpr])) en11 | apply Trace.ct (callArgs0 (.cons (.plain rfl) .nil)) (paN hz h12 (l := g.partsR) (c := 0) (by rw [if_pos hC, hC])) en11
                apply Trace.pu [] (.move (.plain rfl))
                apply Trace.pu [] (.extract (.plain rfl) rfl)
                apply Trace.pu [] (.extract (.plain rfl) rfl)
                apply Trace.pu [] (.assign (.plain rfl))
                apply Trace.pu [] (.assign (.plain rfl))
                exact .nil _
              · exact keepOK_of hk hn rfl
              apply WPA.seq
              apply WPA.seq
              apply WPA.region
              · apply Trace.pu [] (.move (.plain rfl))
                apply Trace.pu [] (.cmp (.plain rfl) (.plain rfl) rfl)
                exact .nil _
              · exact keepOK_of hk hn rfl
              refine WPA.cond rfl (fun hc8 => ?_) (fun hc8 => ?_)
              · apply WPA.seq
                apply WPA.region
                · apply Trace.pu [] (.move (.plain rfl))
                  apply Trace.pu [] (.cmp (.plain rfl) (.plain rfl) rfl)
                  apply Trace.pu [] (.move (.plain rfl))
                  apply Trace.pg [] rfl (.move (.plain rfl))
                  apply Trace.pg [] rfl (.cmp (.gd rfl (fun h => h)) (.plain rfl) rfl)
                  apply Trace.pu [] (.pick (.plain rfl) (.gd rfl (by simp)) (.plain rfl))
                  apply Trace.pu [] (.assign (.plain rfl))
                  exact .nil _
                · exact keepOK_of hk hn rfl
                apply WPA.ret
                refine ⟨.inr rfl, ⟨_, (.cons (.tmp rfl) .nil), ?_⟩, by simp [St.get]⟩
                rfl
              · cases hc8

end Go.Proofs.Ytglokdfdogmmhaa

