import Derived.Test.YtmdfamnnnoieaaaDoorPkK
/- PoolCollected. -/
namespace Go.Proofs.YtmdfamnnnoieaaaDoor
open Go
set_option linter.unusedVariables false
set_option linter.unusedSimpArgs false
set_option maxRecDepth 10000
set_option maxHeartbeats 4000000

/-- The columns of digests. -/
def digCols (ks : List (List Int)) : List Col := (List.range 32).map fun j => .ints .u8 (ks.map fun k => k.getD j 0)
theorem digCols_length (ks : List (List Int)) : (digCols ks).length = 32 := by simp [digCols]
theorem digCols_len (ks : List (List Int)) : ∀ c ∈ digCols ks, c.len = ks.length := by
  intro c hc
  simp only [digCols, List.mem_map] at hc
  obtain ⟨j, _, rfl⟩ := hc
  simp [Col.len]
theorem digCols_one (ks : List (List Int)) : ∀ c ∈ digCols ks, c.oneB = true := by
  intro c hc
  simp only [digCols, List.mem_map] at hc
  obtain ⟨j, _, rfl⟩ := hc
  rfl
theorem digCols_cat (a b : List (List Int)) : joined (digCols a) (digCols b) = digCols (a ++ b) := by
  have key : ∀ l : List Nat, catCols (l.map fun j => Col.ints .u8 (a.map fun k => k.getD j 0)) (l.map fun j => Col.ints .u8 (b.map fun k => k.getD j 0)) = l.map fun j => Col.ints .u8 ((a ++ b).map fun k => k.getD j 0) := by
    intro l
    induction l with
    | nil => rfl
    | cons j r ih => simp only [List.map_cons, catCols, ih, Col.cat, if_true, List.map_append]
  have hne : ∀ l : List Col, l ≠ [] → ∀ m, joined l m = catCols l m := fun l hl m => by cases l with | nil => exact absurd rfl hl | cons => rfl
  rw [hne _ (by simp [digCols])]
  exact key _
theorem digCols_row {ks : List (List Int)} (h : ∀ k ∈ ks, k.length = 32) {i : Nat} (hi : i < ks.length) : (digCols ks).map (Col.at · i) = digRow ks i := by
  have hl := h ks[i] (List.getElem_mem hi)
  unfold digCols digRow
  rw [List.map_map, List.getD_eq_getElem?_getD, List.getElem?_eq_getElem hi]
  refine List.ext_getElem (by simp [hl]) fun j h1 h2 => ?_
  simp only [List.length_map, List.length_range] at h1
  have hj : j < ks[i].length := by omega
  simp [Col.at, List.getD_eq_getElem?_getD, hi, hj]
theorem digs_one {k : List Int} (h : k.length = 32) : ∀ i, i < 1 → (k.map fun x => D.v (.int .u8 x)) = (digCols [k]).map (Col.at · i) := by
  intro i hi
  have : i = 0 := by omega
  subst this
  rw [digCols_row (by simpa using h) (by simp)]
  rfl
theorem digApp_eq {a b : List (List Int)} {n m : Nat} (h : a = b) (hn : n = m) : some (Cont.blk (.app 32 n (digCols a))) = some (Cont.blk (.app 32 m (digCols b))) := by rw [h, hn]
theorem digOwn_eq {l m n : Nat} (h : m = n) : some (Cont.av (AV.own l m)) = some (Cont.av (.own l n)) := by rw [h]
/-- The digests that are to be kept by two lists. -/
def bth (ks ls : List (List Int)) (ts : List Tk) : List (List Int) := (ts.filter fun t => decide (t.d ∈ ks) && decide (t.d ∈ ls)).map Tk.d
theorem bth_succ {ks ls : List (List Int)} {ts : List Tk} {i : Nat} (h : i < ts.length) : bth ks ls (ts.take (i + 1)) = bth ks ls (ts.take i) ++ (if (ts.getD i default).d ∈ ks ∧ (ts.getD i default).d ∈ ls then [(ts.getD i default).d] else []) := by
  unfold bth
  rw [take_succ' _ _ h, List.filter_append, List.map_append, List.getD_eq_getElem?_getD, List.getElem?_eq_getElem h]
  congr 1
  simp only [Option.getD_some, List.filter_cons, List.filter_nil]
  by_cases h1 : ts[i].d ∈ ks <;> by_cases h2 : ts[i].d ∈ ls <;> simp [h1, h2]
theorem bth_le {ks ls : List (List Int)} {ts : List Tk} {i : Nat} : (bth ks ls (ts.take i)).length ≤ ts.length := by
  unfold bth
  rw [List.length_map]
  refine Nat.le_trans (List.length_filter_le _ _) ?_
  simp
  omega
theorem bth_len {ks ls : List (List Int)} {ts : List Tk} (h : ∀ t ∈ ts, t.Ok) : ∀ k ∈ bth ks ls ts, k.length = 32 := by
  intro k hk
  obtain ⟨t, ht, rfl⟩ := List.mem_map.1 hk
  exact (h t (List.mem_filter.1 ht).1).len
theorem bth_kept (ks ls : List (List Int)) (ts : List Tk) : keptIn (bth ks ls ts) ts = keptIn ls (keptIn ks ts) := by
  unfold keptIn
  rw [List.filter_filter]
  refine List.filter_congr fun t ht => ?_
  have : (t.d ∈ bth ks ls ts) ↔ (t.d ∈ ks ∧ t.d ∈ ls) := by
    unfold bth
    rw [List.mem_map]
    constructor
    · rintro ⟨s, hs, e⟩
      have := (List.mem_filter.1 hs).2
      rw [Bool.and_eq_true, decide_eq_true_eq, decide_eq_true_eq, e] at this
      exact this
    · rintro ⟨h1, h2⟩
      exact ⟨t, List.mem_filter.2 ⟨ht, by simp [h1, h2]⟩, rfl⟩
  simp only [this, Bool.decide_and]
  exact Bool.and_comm _ _
theorem look_kept {ks : List (List Int)} {ts : List Tk} (hs : SrtP ts) {t : Tk} (ht : t ∈ ts) : lookE (keptIn ks ts) t.d = if t.d ∈ ks then (t.xs, true) else ([], false) := by
  by_cases h : t.d ∈ ks
  · rw [if_pos h]
    exact look_mem (hs.sublist List.filter_sublist) (List.mem_filter.2 ⟨ht, by simpa using h⟩)
  · rw [if_neg h]
    refine look_no fun s hs2 e => h ?_
    have := (List.mem_filter.1 hs2).2
    rw [e] at this
    simpa using this
theorem collectE_bad {ts : List Tk} {ks : List (List Int)} (h : chk ts = false) : collectE ts ks = ([], 250) := by unfold collectE; rw [h]; rfl
theorem collectE_ok {ts : List Tk} {ks : List (List Int)} (h : chk ts = true) : collectE ts ks = (keptIn ks ts, 0) := by unfold collectE; rw [h]; rfl
/-- soundpost/soundpostlaw25.PoolCollected -/
theorem spec8 (ts : List Tk) (ht0 : ∀ t ∈ ts, t.Ok0) (ks ls : List (List Int)) (hkn0 : ks.length ≤ 140737488355328) (hln0 : ls.length ≤ 140737488355328) (hks : ∀ k ∈ ks, k.length = 32) (hls : ∀ k ∈ ls, k.length = 32) : FnSpec Tryd.prog 8 [.d (poolD ts), .d (digsD ks), .d (digsD ls)] [] (bv true) [] [] := by
  refine fnSpec_of (rs := [.tmp 6]) Tryd.func8 rfl rfl (Nat.le_of_ble_eq_true rfl) (by simp [St.get]) fun E hk hn => ?_
  apply WPA.seq
  apply WPA.region
  · apply Trace.boxD 3 [] (.plain rfl) rfl rfl
    apply Trace.pu [] (.assign (.plain rfl))
    exact .nil _
  · exact keepOK_of hk hn rfl
  apply WPA.seq
  apply WPA.seq
  apply WPA.region
  · apply Trace.cu (callArgs0 .nil) spec9 en9
    apply Trace.pu [] (.not (.plain rfl))
    exact .nil _
  · exact keepOK_of hk hn rfl
  refine WPA.cond rfl (fun hc1 => ?_) (fun hc1 => ?_)
  · cases hc1
  · apply WPA.skip
    apply WPA.seq
    apply WPA.seq
    apply WPA.region
    · apply Trace.pu [_] (.loadAllD ty24 (.plain rfl) rfl rfl)
      apply Trace.cu (callArgs0 (.cons (.plain rfl) .nil)) (spec10 ts ht0) en10
      apply Trace.pu [] (.not (.plain rfl))
      apply Trace.pu [] (.move (.plain rfl))
      apply Trace.pg [] rfl (.move (.plain rfl))
      apply Trace.pg [] rfl (.len rfl Tryd.underlying41 (.gd rfl (fun h => h)) rfl)
      apply Trace.pg [] rfl (.cmp (.gd rfl (fun h => h)) (.plain rfl) rfl)
      apply Trace.pu [] (.pick (.plain rfl) (.plain rfl) (.gd rfl (by simp)))
      apply Trace.pu [] (.move (.plain rfl))
      apply Trace.pg [] rfl (.move (.plain rfl))
      apply Trace.pg [] rfl (.len rfl Tryd.underlying41 (.gd rfl (fun h => h)) rfl)
      apply Trace.pg [] rfl (.cmp (.gd rfl (fun h => h)) (.plain rfl) rfl)
      apply Trace.pu [] (.pick (.plain rfl) (.plain rfl) (.gd rfl (by simp)))
      exact .nil _
    · exact keepOK_of hk hn rfl
    refine WPA.cond rfl (fun hc2 => ?_) (fun hc2 => ?_)
    · apply WPA.seq
      apply WPA.region
      · apply Trace.pu [] (.assign (.plain rfl))
        exact .nil _
      · exact keepOK_of hk hn rfl
      apply WPA.ret
      refine ⟨.inr rfl, ⟨_, (.cons (.tmp rfl) .nil), ?_⟩, by simp [St.get]⟩
      rfl
    · have hf : fewB ts = true ∧ ks.length ≤ 20 ∧ ls.length ≤ 20 := by
        cases h : fewB ts with
        | false => rw [h] at hc2; simp at hc2
        | true =>
          rw [h] at hc2
          by_cases h1 : ks.length ≤ 20
          · by_cases h2 : ls.length ≤ 20
            · exact ⟨rfl, h1, h2⟩
            · simp [show ¬ ((ls.length : Int) ≤ 20) by omega, show (20 : Int) < ls.length by omega] at hc2
          · simp [show (20 : Int) < ks.length by omega] at hc2
      obtain ⟨hf, hkn, hln⟩ := hf
      obtain ⟨h8, hto0⟩ := fewB_ok ht0 hf
      have hts : ∀ t ∈ ts, t.Ok := fun t h => (hto0 t h).1
      obtain ⟨us, e, hM⟩ : ∃ us e, collectE ts ks = (us, e) := ⟨_, _, rfl⟩
      obtain ⟨huo, hul⟩ := collectE_all hts hM
      have hcas : (e = 250 ∧ us = []) ∨ (chk ts = true ∧ e = 0 ∧ us = keptIn ks ts) := by
        cases h1 : chk ts with
        | false =>
          rw [collectE_bad h1] at hM
          injection hM with q1 q2
          exact .inl ⟨q2.symm, q1.symm⟩
        | true =>
          rw [collectE_ok h1] at hM
          injection hM with q1 q2
          exact .inr ⟨rfl, q2.symm, q1.symm⟩
      apply WPA.skip
      apply WPA.seq
      apply WPA.region
      · apply Trace.pu [_] (.loadAllD ty24 (.plain rfl) rfl rfl)
        apply Trace.pu [] (.move (.plain rfl))
        apply Trace.ct (callArgs0 (.cons (.plain rfl) (.cons (.plain rfl) .nil))) (collectF hts (by omega) hks (by omega) hM) en23
        apply Trace.pu [] (.move (.plain rfl))
        apply Trace.pu [] (.extract (.plain rfl) rfl)
        apply Trace.pu [] (.extract (.plain rfl) rfl)
        apply Trace.alloc 7 [] (.data _) zo24 (cellsAs_data _) rfl
        apply Trace.storeD ty24 (.plain rfl) (.plain rfl) rfl rfl rfl (by simp [AV.oneB, single]) (Nat.le_of_ble_eq_true rfl) rfl
        apply Trace.pu [] (.assign (.plain rfl))
        exact .nil _
      · exact keepOK_of hk hn rfl
      apply WPA.seq
      apply WPA.seq
      apply WPA.region
      · apply Trace.pu [] (.move (.plain rfl))
        apply Trace.pu [] (.cmp (.plain rfl) (.plain rfl) rfl)
        exact .nil _
      · exact keepOK_of hk hn rfl
      refine WPA.cond rfl (fun hc3 => ?_) (fun hc3 => ?_)
      · obtain ⟨rfl, rfl⟩ : e = 250 ∧ us = [] := by
          rcases hcas with h | ⟨_, h1, _⟩
          · exact h
          · rw [h1] at hc3; cases hc3
        apply WPA.seq
        apply WPA.region
        · apply Trace.pu [] (.fieldAddr fl24_0 (.plain rfl) rfl)
          first | apply Trace.pu [_] (.loadLoc1D ty22 (.plain rfl) rfl rfl) | apply Trace.pu [_] (.loadLoc1 ty22 (.plain rfl) rfl rfl) | apply Trace.pu [] (.loadRp1 ty22 (.plain rfl) rfl) | apply Trace.pu [_] (.loadCol1 ty22 (.plain rfl) rfl rfl rfl (fun _ => by omega))
          apply Trace.pu [] (.len rfl Tryd.underlying22 (.plain rfl) rfl)
          apply Trace.pu [] (.cmp (.plain rfl) (.plain rfl) rfl)
          apply Trace.pu [] (.assign (.plain rfl))
          exact .nil _
        · exact keepOK_of hk hn rfl
        apply WPA.ret
        refine ⟨.inr rfl, ⟨_, (.cons (.tmp rfl) .nil), ?_⟩, by simp [St.get]⟩
        rfl
      · obtain ⟨hC, rfl, hus⟩ : chk ts = true ∧ e = 0 ∧ us = keptIn ks ts := by
          rcases hcas with ⟨h1, _⟩ | h
          · rw [h1] at hc3; cases hc3
          · exact h
        have hS := (chk_iff.1 hC).1
        have hCu : chk us = true := by rw [hus]; exact kept_chk ks hC
        have hck : ckE us = 0 := by unfold ckE; rw [hCu]; rfl
        have hM2 : collectE us ls = (keptIn ls us, 0) := collectE_ok hCu
        have hM3 : collectE ts (bth ks ls ts) = (keptIn ls us, 0) := by rw [collectE_ok hC, bth_kept, hus]
        have hwo : ∀ t ∈ keptIn ls us, t.Ok := fun t ht => huo t (List.mem_filter.1 ht).1
        have hwl : (keptIn ls us).length ≤ us.length := List.length_filter_le _ _
        have hbl : (bth ks ls ts).length ≤ ts.length := by have := bth_le (ks := ks) (ls := ls) (ts := ts) (i := ts.length); rwa [List.take_length] at this
        have hbo := bth_len (ks := ks) (ls := ls) hts
        clear hM hcas
        apply WPA.skip
        apply WPA.seq
        apply WPA.seq
        apply WPA.region
        · apply Trace.pu [_] (.loadAllD ty24 (.plain rfl) rfl rfl)
          apply Trace.cu (callArgs0 (.cons (.plain rfl) .nil)) (checkF huo (by omega) hck) en19
          apply Trace.pu [] (.cmp (.plain rfl) (.plain rfl) rfl)
          apply Trace.pu [] (.move (.plain rfl))
          apply Trace.og rfl
          apply Trace.pu [] (.fieldAddr fl24_0 (.plain rfl) rfl)
          apply Trace.og rfl
          first | apply Trace.pu [_] (.loadLoc1D ty22 (.plain rfl) rfl rfl) | apply Trace.pu [_] (.loadLoc1 ty22 (.plain rfl) rfl rfl) | apply Trace.pu [] (.loadRp1 ty22 (.plain rfl) rfl) | apply Trace.pu [_] (.loadCol1 ty22 (.plain rfl) rfl rfl rfl (fun _ => by omega))
          apply Trace.og rfl
          apply Trace.pu [] (.len rfl Tryd.underlying22 (.plain rfl) rfl)
          apply Trace.og rfl
          apply Trace.pu [] (.fieldAddr fl24_0 (.plain rfl) rfl)
          apply Trace.og rfl
          first | apply Trace.pu [_] (.loadLoc1D ty22 (.plain rfl) rfl rfl) | apply Trace.pu [_] (.loadLoc1 ty22 (.plain rfl) rfl rfl) | apply Trace.pu [] (.loadRp1 ty22 (.plain rfl) rfl) | apply Trace.pu [_] (.loadCol1 ty22 (.plain rfl) rfl rfl rfl (fun _ => by omega))
          apply Trace.og rfl
          apply Trace.pu [] (.len rfl Tryd.underlying22 (.plain rfl) rfl)
          apply Trace.og rfl
          apply Trace.pu [] ((Pure.cmp (.plain rfl) (.plain rfl) rfl).to (y := bv false) (congrArg bv (decide_eq_false (by omega))))
          apply Trace.pu [] (.pick (.plain rfl) (.plain rfl) (.plain rfl))
          exact .nil _
        · exact keepOK_of hk hn rfl
        refine WPA.cond rfl (fun hc4 => ?_) (fun hc4 => ?_)
        · cases hc4
        · apply WPA.skip
          apply WPA.seq
          apply WPA.region
          · apply Trace.pu [] (.assign (.plain rfl))
            exact .nil _
          · exact keepOK_of hk hn rfl
          apply WPA.seq
          apply WPA.seq
          apply WPA.region
          · apply Trace.pu [] (.assign (.plain rfl))
            exact .nil _
          · exact keepOK_of hk hn rfl
          apply WPA.block
          refine WPA.ghost (Ghost.ownNil' (t := 9) (l := 9) (n := 32) (cs := digCols []) rfl rfl (by rw [hk]; decide) (by rw [hn]; decide) (digCols_length _) (digCols_len [])) ?_
          refine WPA.loop (σ := Nat) (fun i => [(sl 1, .av (.d (digsD ks))), (sl 2, .av (.d (digsD ls))), (sl 3, .av (.loc 3 0)), (sl 7, .av (.loc 7 0)), (sl 9, .av (.own 9 (bth ks ls (ts.take i)).length)), (sl 10, .av (iv .i64 (i))), (bk 3, .blk (.data [tksD ts])), (bk 7, .blk (.data [tksD us])), (bk 9, .blk (.app 32 (bth ks ls (ts.take i)).length (digCols (bth ks ls (ts.take i)))))]) (fun i => i ≤ ts.length) (fun i => ts.length - i) 0
            (St.le_cons rfl (St.le_cons rfl (St.le_cons rfl (St.le_cons rfl (St.le_cons rfl (St.le_cons rfl (St.le_cons rfl (St.le_cons rfl (St.le_cons rfl (St.le_nil _)))))))))) (Nat.zero_le _) fun i hi => ?_
          apply WPA.seq
          apply WPA.seq
          apply WPA.region
          · apply Trace.pu [] (.move (.plain rfl))
            apply Trace.pu [] (.fieldAddr fl24_0 (.plain rfl) rfl)
            first | apply Trace.pu [_] (.loadLoc1D ty22 (.plain rfl) rfl rfl) | apply Trace.pu [_] (.loadLoc1 ty22 (.plain rfl) rfl rfl) | apply Trace.pu [] (.loadRp1 ty22 (.plain rfl) rfl) | apply Trace.pu [_] (.loadCol1 ty22 (.plain rfl) rfl rfl rfl (fun _ => by omega))
            apply Trace.pu [] (.len rfl Tryd.underlying22 (.plain rfl) rfl)
            apply Trace.pu [] (.cmp (.plain rfl) (.plain rfl) rfl)
            exact .nil _
          · exact keepOK_of hk hn rfl
          refine WPA.cond rfl (fun hc5 => ?_) (fun hc5 => ?_)
          · have hlt : i < ts.length := by simp at hc5; omega
            obtain ⟨t, hte⟩ : ∃ t, ts.getD i default = t := ⟨_, rfl⟩
            have htm : t ∈ ts := by rw [← hte]; exact getD_mem' hlt
            have hto : t.Ok := hts _ htm
            have hdl := hto.len
            have hdb := hto.byt
            have hfw := hto.few
            obtain ⟨lx, lb, hL⟩ : ∃ x b, lookE us t.d = (x, b) := ⟨_, _, rfl⟩
            have hll := lookE_ok huo hL
            have hlk := look_kept (ks := ks) hS htm
            rw [← hus, hL] at hlk
            have hlb : lb = decide (t.d ∈ ks) ∧ (lb = true → lx = t.xs) := by
              by_cases h : t.d ∈ ks
              · rw [if_pos h] at hlk; injection hlk with q1 q2; subst q1; subst q2; simp [h]
              · rw [if_neg h] at hlk; injection hlk with q1 q2; subst q2; simp [h]
            obtain ⟨hlb, hlx⟩ := hlb
            have hbs := bth_succ (ks := ks) (ls := ls) hlt
            rw [hte] at hbs
            have hble := bth_le (ks := ks) (ls := ls) (ts := ts) (i := i)
            apply WPA.skip
            apply WPA.seq
            apply WPA.block
            apply WPA.seq
            apply WPA.region
            · apply Trace.pu [] (.fieldAddr fl24_0 (.plain rfl) rfl)
              first | apply Trace.pu [_] (.loadLoc1D ty22 (.plain rfl) rfl rfl) | apply Trace.pu [_] (.loadLoc1 ty22 (.plain rfl) rfl rfl) | apply Trace.pu [] (.loadRp1 ty22 (.plain rfl) rfl) | apply Trace.pu [_] (.loadCol1 ty22 (.plain rfl) rfl rfl rfl (fun _ => by omega))
              apply Trace.pu [] (.move (.plain rfl))
              first | apply Trace.pu [] (.indexRows el22 (.plain rfl) (.plain rfl) (fun _ => ⟨by omega, by omega⟩)) | apply Trace.pu [] (.indexOwn el22 (.plain rfl) (.plain rfl) (fun _ => ⟨by omega, by omega⟩)) | apply Trace.pu [] (.indexSl el22 (.plain rfl) (.plain rfl) (fun _ => ⟨by omega, by omega⟩)) | apply Trace.pu [] (.indexSa el22 (.plain rfl) (.plain rfl) (fun _ => ⟨by omega, by omega⟩))
              apply Trace.pu [] (.fieldAddr fl49_0 (.plain rfl) rfl)
              apply Trace.pu [] ((Pure.loadRp ty27 (.plain rfl) (fun _ => by rw [Int.toNat_natCast, List.drop_zero]; have := tk_len hts (i := i) (by omega); exact Nat.le_trans (by decide) this)).to (y := .d (byD t.d)) (by rw [← hte, Int.toNat_natCast]; exact row_d hts (by omega)))
              apply Trace.alloc 11 [] (.data (List.replicate 32 (D.v (.int .u8 0)))) zo27 (cellsAs_data _) rfl
              apply Trace.storeD (cs' := t.d.map fun x => .v (.int .u8 x)) ty27 (.plain rfl) (.plain rfl) rfl rfl (by simp [hdl]) (by_one _) (by decide) (spliceL_all (by simp [hdl]))
              exact .nil _
            · exact keepOK_of hk hn rfl
            apply WPA.seq
            apply WPA.region
            · apply Trace.pu [] (.move (.plain rfl))
              apply Trace.pu [_] (.loadAllD ty27 (.plain rfl) rfl (by simp [hdl]))
              apply Trace.cu (callArgs0 (.cons (.plain rfl) (.cons (.plain rfl) .nil))) (spec28 ks t.d hks hdl (by omega)) en28
              apply Trace.pu [] (.assign (.plain rfl))
              exact .nil _
            · exact keepOK_of hk hn rfl
            apply WPA.seq
            apply WPA.region
            · apply Trace.pu [_] (.loadAllD ty24 (.plain rfl) rfl rfl)
              apply Trace.pu [_] (.loadAllD ty27 (.plain rfl) rfl (by simp [hdl]))
              apply Trace.ct (callArgs0 (.cons (.plain rfl) (.cons (.plain rfl) .nil))) (lookF huo (by omega) hdl hdb hL) en15
              apply Trace.pu [] (.move (.plain rfl))
              apply Trace.pu [] (.extract (.plain rfl) rfl)
              apply Trace.pu [] (.extract (.plain rfl) rfl)
              apply Trace.pu [] (.assign (.plain rfl))
              apply Trace.pu [] (.assign (.plain rfl))
              exact .nil _
            · exact keepOK_of hk hn rfl
            apply WPA.seq
            apply WPA.seq
            apply WPA.region
            · apply Trace.pu [] (.move (.plain rfl))
              apply Trace.pu [] (.move (.plain rfl))
              apply Trace.pu [] (.bne Tryd.underlying4 (.plain rfl) (.plain rfl))
              apply Trace.pu [] (.move (.plain rfl))
              apply Trace.pg [] rfl (.move (.plain rfl))
              apply Trace.pg [] rfl (.move (.gd rfl (fun h => h)))
              apply Trace.pg [] rfl (.move (.plain rfl))
              apply Trace.pg [] rfl (.fieldAddr fl24_0 (.plain rfl) rfl)
              first | apply Trace.pg [_] rfl (.loadLoc1D ty22 (.gd rfl (fun h => h)) rfl rfl) | apply Trace.pg [_] rfl (.loadLoc1 ty22 (.gd rfl (fun h => h)) rfl rfl) | apply Trace.pg [] rfl (.loadRp1 ty22 (.gd rfl (fun h => h)) rfl) | apply Trace.pg [_] rfl (.loadCol1 ty22 (.gd rfl (fun h => h)) rfl rfl rfl (fun _ => by omega))
              apply Trace.pg [] rfl (.move (.plain rfl))
              first | apply Trace.pg [] rfl (.indexRows el22 (.gd rfl (fun h => h)) (.gd rfl (fun h => h)) (fun _ => ⟨by omega, by omega⟩)) | apply Trace.pg [] rfl (.indexOwn el22 (.gd rfl (fun h => h)) (.gd rfl (fun h => h)) (fun _ => ⟨by omega, by omega⟩)) | apply Trace.pg [] rfl (.indexSl el22 (.gd rfl (fun h => h)) (.gd rfl (fun h => h)) (fun _ => ⟨by omega, by omega⟩)) | apply Trace.pg [] rfl (.indexSa el22 (.gd rfl (fun h => h)) (.gd rfl (fun h => h)) (fun _ => ⟨by omega, by omega⟩))
              apply Trace.pg [] rfl (.fieldAddr fl49_1 (.gd rfl (fun h => h)) rfl)
              apply Trace.pg [] rfl (.loadRp1 ty25 (.gd rfl (fun h => h)) (r := intsD t.xs) (by rw [Int.toNat_natCast, ← hte]; exact row_x hts hlt))
              apply Trace.cg rfl (callArgs0 (.cons (.gd rfl (fun h => h)) (.cons (.gd rfl (fun h => h)) .nil))) (fun h => spec18 lx t.xs (by omega) (by omega)) en18
              apply Trace.pg [] rfl (.not (.gd rfl (fun h => h)))
              apply Trace.pg [] rfl (.pick (.gd rfl (fun h => h)) (.gd rfl (by simp)) (.plain rfl))
              apply Trace.pu [] (.pick (.plain rfl) (.plain rfl) (.gd rfl (by simp)))
              exact .nil _
            · exact keepOK_of hk hn rfl
            refine WPA.cond rfl (fun hc6 => ?_) (fun hc6 => ?_)
            · rw [← hlb] at hc6
              cases lb with
              | false => cases hc6
              | true => rw [hlx rfl] at hc6; simp at hc6
            · apply WPA.skip
              apply WPA.seq
              apply WPA.region
              · apply Trace.pu [] (.move (.plain rfl))
                apply Trace.pu [] (.move (.plain rfl))
                apply Trace.pg [] rfl (.move (.plain rfl))
                apply Trace.pg [_] rfl (.loadAllD ty27 (.plain rfl) rfl (by simp [hdl]))
                apply Trace.cg rfl (callArgs0 (.cons (.gd rfl (fun h => h)) (.cons (.gd rfl (fun h => h)) .nil))) (fun h => spec28 ls t.d hls hdl (by omega)) en28
                apply Trace.pu [] (.pick (.plain rfl) (.gd rfl (by simp)) (.plain rfl))
                exact .nil _
              · exact keepOK_of hk hn rfl
              refine WPA.cond rfl (fun hc7 => ?_) (fun hc7 => ?_)
              · have hbb : t.d ∈ ks ∧ t.d ∈ ls := by
                  rcases pick_eq hc7 with ⟨h1, h2⟩ | ⟨_, h⟩
                  · exact ⟨of_decide_eq_true h1, of_decide_eq_true h2⟩
                  · cases h
                rw [if_pos hbb] at hbs
                apply WPA.region
                · apply Trace.pu [] (.move (.plain rfl))
                  apply Trace.pu [_] (.loadAllD ty27 (.plain rfl) rfl (by simp [hdl]))
                  apply Trace.buildOne so41 zo27 rfl (by decide) (by decide) (.plain rfl) (by simp [hdl])
                  apply Trace.append 9 [sl 9, sl 103] ap41 kd41 (by decide) (.own (.plain rfl) rfl) (.rows (cs := digCols [t.d]) (.plain rfl) (digCols_length _) (fun c hc => by rw [digCols_len _ c hc]; rfl) (digs_one hdl)) (digCols_one _) (labs_ok rfl) (by omega) (by omega) (digCols_cat _ _) rfl
                  apply Trace.pu [] (.assign (.plain rfl))
                  exact .nil _
                · exact keepOK_of hk hn rfl
                apply WPA.region
                · apply Trace.pu [] (.move (.plain rfl))
                  apply Trace.pu [] (.arith (.plain rfl) (.plain rfl) rfl (fun _ => bd64 (by omega)))
                  apply Trace.pu [] (.assign (.plain rfl))
                  exact .nil _
                · exact keepOK_of hk hn rfl
                exact ⟨i + 1, by omega, by omega, St.le_cons rfl (St.le_cons rfl (St.le_cons rfl (St.le_cons rfl (St.le_cons (by rw [hbs]; first | rfl | exact digOwn_eq (by simp)) (St.le_cons (iv_eq (by omega)) (St.le_cons rfl (St.le_cons rfl (St.le_cons (by rw [hbs]; first | rfl | exact digApp_eq rfl (by simp)) (St.le_nil _)))))))))⟩
              · have hbb : ¬ (t.d ∈ ks ∧ t.d ∈ ls) := fun ⟨h1, h2⟩ => by
                  rw [decide_eq_true h1, decide_eq_true h2] at hc7
                  cases hc7
                rw [if_neg hbb, List.append_nil] at hbs
                apply WPA.skip
                apply WPA.region
                · apply Trace.pu [] (.move (.plain rfl))
                  apply Trace.pu [] (.arith (.plain rfl) (.plain rfl) rfl (fun _ => bd64 (by omega)))
                  apply Trace.pu [] (.assign (.plain rfl))
                  exact .nil _
                · exact keepOK_of hk hn rfl
                exact ⟨i + 1, by omega, by omega, St.le_cons rfl (St.le_cons rfl (St.le_cons rfl (St.le_cons rfl (St.le_cons (by rw [hbs]; first | rfl | exact digOwn_eq (by simp)) (St.le_cons (iv_eq (by omega)) (St.le_cons rfl (St.le_cons rfl (St.le_cons (by rw [hbs]; first | rfl | exact digApp_eq rfl (by simp)) (St.le_nil _)))))))))⟩
          · have hend : i = ts.length := by simp at hc5; omega
            subst hend
            rw [List.take_length]
            apply WPA.exit
            apply WPA.seq
            refine WPA.ghost (Ghost.freezeAs (t := 9) (l := 9) (g := digRow (bth ks ls ts)) rfl rfl (fun i hi => digCols_row hbo hi)) ?_
            apply WPA.region
            · apply Trace.pu [_] (.loadAllD ty24 (.plain rfl) rfl rfl)
              apply Trace.pu [] (.move (.plain rfl))
              apply Trace.ct (callArgs0 (.cons (.plain rfl) (.cons (.plain rfl) .nil))) (collectF huo (by omega) hls (by omega) hM2) en23
              apply Trace.pu [] (.move (.plain rfl))
              apply Trace.pu [] (.extract (.plain rfl) rfl)
              apply Trace.pu [] (.extract (.plain rfl) rfl)
              apply Trace.alloc 15 [] (.data _) zo24 (cellsAs_data _) rfl
              apply Trace.storeD ty24 (.plain rfl) (.plain rfl) rfl rfl rfl (by simp [AV.oneB, single]) (Nat.le_of_ble_eq_true rfl) rfl
              apply Trace.pu [] (.assign (.plain rfl))
              exact .nil _
            · exact keepOK_of hk hn rfl
            apply WPA.seq
            apply WPA.region
            · apply Trace.pu [_] (.loadAllD ty24 (.plain rfl) rfl rfl)
              apply Trace.pu [] (.move (.plain rfl))
              apply Trace.ct (callArgs0 (.cons (.plain rfl) (.cons (.plain rfl) .nil))) (collectF hts (by omega) hbo (by omega) hM3) en23
              apply Trace.pu [] (.move (.plain rfl))
              apply Trace.pu [] (.extract (.plain rfl) rfl)
              apply Trace.pu [] (.extract (.plain rfl) rfl)
              apply Trace.alloc 17 [] (.data _) zo24 (cellsAs_data _) rfl
              apply Trace.storeD ty24 (.plain rfl) (.plain rfl) rfl rfl rfl (by simp [AV.oneB, single]) (Nat.le_of_ble_eq_true rfl) rfl
              apply Trace.pu [] (.assign (.plain rfl))
              exact .nil _
            · exact keepOK_of hk hn rfl
            apply WPA.seq
            apply WPA.region
            · apply Trace.pu [] (.move (.plain rfl))
              apply Trace.pu [] (.cmp (.plain rfl) (.plain rfl) rfl)
              apply Trace.pu [] (.move (.plain rfl))
              apply Trace.og rfl
              apply Trace.pu [] (.move (.plain rfl))
              apply Trace.og rfl
              apply Trace.pu [] (.cmp (.plain rfl) (.plain rfl) rfl)
              apply Trace.pu [] (.pick (.plain rfl) (.plain rfl) (.plain rfl))
              apply Trace.pu [] (.move (.plain rfl))
              apply Trace.og rfl
              apply Trace.pu [_] (.loadAllD ty24 (.plain rfl) rfl rfl)
              apply Trace.og rfl
              apply Trace.pu [_] (.loadAllD ty24 (.plain rfl) rfl rfl)
              apply Trace.og rfl
              apply Trace.cu (callArgs0 (.cons (.plain rfl) (.cons (.plain rfl) .nil))) (sameT hwo (by omega) hwo (by omega) (decide_eq_true rfl)) en17
              apply Trace.pu [] (.pick (.plain rfl) (.plain rfl) (.plain rfl))
              apply Trace.pu [] (.assign (.plain rfl))
              exact .nil _
            · exact keepOK_of hk hn rfl
            apply WPA.ret
            refine ⟨.inr rfl, ⟨_, (.cons (.tmp rfl) .nil), ?_⟩, by simp [St.get]⟩
            rfl

end Go.Proofs.YtmdfamnnnoieaaaDoor


/- PoolKept. -/
namespace Go.Proofs.YtmdfamnnnoieaaaDoor
open Go
set_option linter.unusedVariables false
set_option linter.unusedSimpArgs false
set_option maxRecDepth 10000
set_option maxHeartbeats 4000000

def befB (ts : List Tk) (L ns : List (List Int)) (at_ : Nat) (xs : List Int) : Bool :=
  (ts.any fun t => decide (t.d = ns.getD at_ []) && decide (t.xs = xs)) || (List.range at_).any fun j => decide (ns.getD j [] = ns.getD at_ []) && decide (L.getD j [] = xs)
theorem befB_iff {ts : List Tk} {L ns : List (List Int)} {at_ : Nat} {xs : List Int} : befB ts L ns at_ xs = true ↔ (∃ t ∈ ts, t.d = ns.getD at_ [] ∧ t.xs = xs) ∨ ∃ j, j < at_ ∧ ns.getD j [] = ns.getD at_ [] ∧ L.getD j [] = xs := by
  unfold befB
  rw [Bool.or_eq_true, List.any_eq_true, List.any_eq_true]
  simp only [Bool.and_eq_true, decide_eq_true_eq, List.mem_range]
theorem getD_lt {l : List (List Int)} {d : List Int} {j : Nat} (h : j < l.length) : (l ++ [d]).getD j [] = l.getD j [] := by
  rw [List.getD_eq_getElem?_getD, List.getD_eq_getElem?_getD, List.getElem?_append_left h]
theorem getD_at {l : List (List Int)} {d : List Int} {j : Nat} (h : j = l.length) : (l ++ [d]).getD j [] = d := by
  subst h
  rw [List.getD_eq_getElem?_getD, List.getElem?_append_right (Nat.le_refl _)]
  simp
/-- What holds while data are put. -/
structure KInv (ts : List Tk) (L : List (List Int)) (x : List Tk) (ns : List (List Int)) : Prop where
  ck : chk x = true
  len : x.length ≤ ts.length + ns.length
  ok : ∀ t ∈ x, t.Ok
  nm : ∀ k ∈ ns, k.length = 32 ∧ Byt k
  old : ∀ t ∈ ts, t ∈ x
  from_ : ∀ t ∈ x, t ∈ ts ∨ ∃ j, j < ns.length ∧ ns.getD j [] = t.d ∧ L.getD j [] = t.xs
  got : ∀ m, m < ns.length → ns.getD m [] = zero32 ∨ ∃ t ∈ x, t.d = ns.getD m [] ∧ (t.xs = L.getD m [] ∨ t ∈ ts ∨ ∃ j, j < m ∧ ns.getD j [] = ns.getD m [] ∧ L.getD j [] = t.xs)
theorem KInv.start {ts : List Tk} {L : List (List Int)} (hc : chk ts = true) (ho : ∀ t ∈ ts, t.Ok) : KInv ts L ts [] := ⟨hc, by simp, ho, by simp, fun t h => h, fun t h => .inl h, fun m h => by simp at h⟩
theorem KInv.step {ts x us : List Tk} {L ns : List (List Int)} {xs d : List Int} {e : Int} (h : KInv ts L x ns) (hx : xs.length ≤ 1000) (hb : ∀ z ∈ xs, -9223372036854775808 ≤ z ∧ z ≤ 9223372036854775807) (hl : L.getD ns.length [] = xs) (hP : putE x xs = (us, d, e)) :
    (e ≠ 0 → us = [] ∧ KInv ts L x (ns ++ [zero32])) ∧ (e = 0 → KInv ts L us (ns ++ [d])) := by
  have grow : ∀ (u : List Tk) (k : List Int), chk u = true → u.length ≤ x.length + 1 → (∀ t ∈ u, t.Ok) → k.length = 32 → Byt k → (∀ t ∈ x, t ∈ u) → (∀ t ∈ u, t ∈ x ∨ (k = t.d ∧ xs = t.xs)) →
      (k = zero32 ∨ ∃ t ∈ u, t.d = k ∧ (t.xs = xs ∨ t ∈ x)) → KInv ts L u (ns ++ [k]) := by
    intro u k h1 h2 h3 h4 h4' h5 h6 h7
    have hfr : ∀ t ∈ x, t ∈ ts ∨ ∃ j, j < ns.length ∧ (ns ++ [k]).getD j [] = t.d ∧ L.getD j [] = t.xs := fun t ht => by
      rcases h.from_ t ht with g | ⟨j, j1, j2, j3⟩
      · exact .inl g
      · exact .inr ⟨j, j1, by rw [getD_lt j1]; exact j2, j3⟩
    refine ⟨h1, by have := h.len; simp; omega, h3, fun z hz => ?_, fun t ht => h5 t (h.old t ht), fun t ht => ?_, fun m hm => ?_⟩
    · rcases List.mem_append.1 hz with hz | hz
      · exact h.nm z hz
      · simp at hz; rw [hz]; exact ⟨h4, h4'⟩
    · rcases h6 t ht with g | ⟨g1, g2⟩
      · rcases hfr t g with g | ⟨j, j1, j2, j3⟩
        · exact .inl g
        · exact .inr ⟨j, by simp; omega, j2, j3⟩
      · exact .inr ⟨ns.length, by simp, by rw [getD_at rfl]; exact g1, by rw [hl]; exact g2⟩
    · simp only [List.length_append, List.length_singleton] at hm
      by_cases hmn : m < ns.length
      · rw [getD_lt hmn]
        rcases h.got m hmn with g | ⟨t, t1, t2, t3⟩
        · exact .inl g
        · refine .inr ⟨t, h5 t t1, t2, ?_⟩
          rcases t3 with g | g | ⟨j, j1, j2, j3⟩
          · exact .inl g
          · exact .inr (.inl g)
          · exact .inr (.inr ⟨j, j1, by rw [getD_lt (by omega)]; exact j2, j3⟩)
      · have hme : m = ns.length := by omega
        subst hme
        rw [getD_at rfl]
        rcases h7 with g | ⟨t, t1, t2, t3⟩
        · exact .inl g
        · refine .inr ⟨t, t1, t2, ?_⟩
          rcases t3 with g | g
          · exact .inl (g.trans hl.symm)
          · rcases hfr t g with g | ⟨j, j1, j2, j3⟩
            · exact .inr (.inl g)
            · exact .inr (.inr ⟨j, j1, j2.trans t2, j3⟩)
  unfold putE at hP
  cases ho : nmOk xs with
  | false =>
    rw [ho] at hP
    injection hP with q1 q; injection q with q2 q3
    subst q1; subst q2; subst q3
    refine ⟨fun _ => ⟨rfl, grow x zero32 h.ck (by omega) h.ok rfl zero_byt (fun t ht => ht) (fun t ht => .inl ht) (.inl rfl)⟩, fun h0 => by cases h0⟩
  | true =>
    rw [ho, h.ck] at hP
    have hS := (chk_iff.1 h.ck).1
    cases hm : metOf x (nmD xs) with
    | true =>
      rw [hm] at hP
      injection hP with q1 q; injection q with q2 q3
      subst q1; subst q2; subst q3
      refine ⟨fun h0 => absurd rfl h0, fun _ => ?_⟩
      obtain ⟨t, ht, e⟩ := (met_mem hS).1 hm
      exact grow x _ h.ck (by omega) h.ok (nmD_length _) (nmD_byt _) (fun t ht => ht) (fun t ht => .inl ht) (.inr ⟨t, ht, e, .inr ht⟩)
    | false =>
      rw [hm] at hP
      injection hP with q1 q; injection q with q2 q3
      subst q1; subst q2; subst q3
      refine ⟨fun h0 => absurd rfl h0, fun _ => ?_⟩
      refine grow _ _ (ins_chk h.ck ho hm) (by rw [insE_length]; exact Nat.le_refl _) (fun t ht => ?_) (nmD_length _) (nmD_byt _) (fun t ht => insE_mem.2 (.inl ht)) (fun t ht => ?_) (.inr ⟨⟨nmD xs, xs⟩, insE_mem.2 (.inr rfl), rfl, .inl rfl⟩)
      · rcases insE_mem.1 ht with g | g
        · exact h.ok t g
        · rw [g]; exact ⟨nmD_length _, nmD_byt _, hb, hx⟩
      · rcases insE_mem.1 ht with g | g
        · exact .inl g
        · rw [g]; exact .inr ⟨rfl, rfl⟩
/-- What was put is found. -/
theorem KInv.found {ts x : List Tk} {L ns : List (List Int)} (h : KInv ts L x ns) {i : Nat} (hi : i < ns.length) (hz : ns.getD i [] ≠ zero32) : ∃ t ∈ x, getE x (ns.getD i []) = (t.xs, 0) ∧ (t.xs = L.getD i [] ∨ befB ts L ns i t.xs = true) := by
  rcases h.got i hi with g | ⟨t, t1, t2, t3⟩
  · exact absurd g hz
  · refine ⟨t, t1, ?_, ?_⟩
    · rw [getE_look h.ck, ← t2, look_mem (chk_iff.1 h.ck).1 t1]
      rfl
    · rcases t3 with g | g | ⟨j, j1, j2, j3⟩
      · exact .inl g
      · exact .inr (befB_iff.2 (.inl ⟨t, g, t2, rfl⟩))
      · exact .inr (befB_iff.2 (.inr ⟨j, j1, j2, j3⟩))
theorem list_row {L : List (List Int)} {i : Nat} {zs : List Int} (h : L.getD i [] = zs) : (intRow L ((i : Nat) : Int).toNat)[0]? = some (intsD zs) := by
  rw [Int.toNat_natCast, intRow, h]
  rfl
/-- soundpost/soundpostlaw25.before -/
theorem spec25 (ts : List Tk) (hts : ∀ t ∈ ts, t.Ok) (hn1 : ts.length ≤ 500) (L ns : List (List Int)) (hL : ∀ xs ∈ L, xs.length ≤ 17592186044416) (hns : ∀ k ∈ ns, k.length = 32) (hnl : ns.length ≤ 1000) (n : Nat) (hat : n < ns.length) (hatl : n ≤ L.length) (xs : List Int) (hxl : xs.length ≤ 140737488355328) : FnSpec Tryd.prog 25 [.d (poolD ts), .d (listsD L), .d (digsD ns), iv .i64 (n : Int), .d (intsD xs)] [] (bv (befB ts L ns n xs)) [] [] := by
  refine fnSpec_of (rs := [.tmp 10]) Tryd.func25 rfl rfl (Nat.le_of_ble_eq_true rfl) (by simp [St.get]) fun E hk hn => ?_
  apply WPA.seq
  apply WPA.region
  · apply Trace.boxD 5 [] (.plain rfl) rfl rfl
    apply Trace.pu [] (.assign (.plain rfl))
    exact .nil _
  · exact keepOK_of hk hn rfl
  apply WPA.seq
  apply WPA.seq
  apply WPA.region
  · apply Trace.pu [] (.assign (.plain rfl))
    exact .nil _
  · exact keepOK_of hk hn rfl
  apply WPA.block
  obtain ⟨p1, p2⟩ := dig_load hns hat
  obtain ⟨k, hke⟩ : ∃ k, ns.getD n [] = k := ⟨_, rfl⟩
  have hkm : k ∈ ns := by rw [← hke, List.getD_eq_getElem?_getD, List.getElem?_eq_getElem hat]; exact List.getElem_mem hat
  have hkl := hns k hkm
  refine WPA.loop (σ := Nat) (fun i => [(sl 1, .av (.d (listsD L))), (sl 2, .av (.d (digsD ns))), (sl 3, .av (iv .i64 (n : Int))), (sl 4, .av (.d (intsD xs))), (sl 5, .av (.loc 5 0)), (sl 11, .av (iv .i64 (i))), (bk 5, .blk (.data [tksD ts]))]) (fun i => i ≤ ts.length ∧ ∀ j, j < i → ¬ ((ts.getD j default).d = k ∧ (ts.getD j default).xs = xs)) (fun i => ts.length - i) 0
    (St.le_cons rfl (St.le_cons rfl (St.le_cons rfl (St.le_cons rfl (St.le_cons rfl (St.le_cons rfl (St.le_cons rfl (St.le_nil _)))))))) ⟨Nat.zero_le _, fun j hj => absurd hj (by omega)⟩ fun i hi => ?_
  apply WPA.seq
  apply WPA.seq
  apply WPA.region
  · apply Trace.pu [] (.move (.plain rfl))
    apply Trace.pu [] (.fieldAddr fl24_0 (.plain rfl) rfl)
    first | apply Trace.pu [_] (.loadLoc1D ty22 (.plain rfl) rfl rfl) | apply Trace.pu [_] (.loadLoc1 ty22 (.plain rfl) rfl rfl) | apply Trace.pu [] (.loadRp1 ty22 (.plain rfl) rfl) | apply Trace.pu [_] (.loadCol1 ty22 (.plain rfl) rfl rfl rfl (fun _ => by omega))
    apply Trace.pu [] (.len rfl Tryd.underlying22 (.plain rfl) rfl)
    apply Trace.pu [] (.cmp (.plain rfl) (.plain rfl) rfl)
    exact .nil _
  · exact keepOK_of hk hn rfl
  refine WPA.cond rfl (fun hc1 => ?_) (fun hc1 => ?_)
  · have hlt : i < ts.length := by simp at hc1; omega
    obtain ⟨t, hte⟩ : ∃ t, ts.getD i default = t := ⟨_, rfl⟩
    have htm : t ∈ ts := by rw [← hte]; exact getD_mem' hlt
    have hto : t.Ok := hts _ htm
    have hdl := hto.len
    have hfw := hto.few
    apply WPA.skip
    apply WPA.seq
    apply WPA.block
    apply WPA.seq
    apply WPA.draw mixed
    · apply Trace.pu [] (.fieldAddr fl24_0 (.plain rfl) rfl)
      first | apply Trace.pu [_] (.loadLoc1D ty22 (.plain rfl) rfl rfl) | apply Trace.pu [_] (.loadLoc1 ty22 (.plain rfl) rfl rfl) | apply Trace.pu [] (.loadRp1 ty22 (.plain rfl) rfl) | apply Trace.pu [_] (.loadCol1 ty22 (.plain rfl) rfl rfl rfl (fun _ => by omega))
      apply Trace.pu [] (.move (.plain rfl))
      first | apply Trace.pu [] (.indexRows el22 (.plain rfl) (.plain rfl) (fun _ => ⟨by omega, by omega⟩)) | apply Trace.pu [] (.indexOwn el22 (.plain rfl) (.plain rfl) (fun _ => ⟨by omega, by omega⟩)) | apply Trace.pu [] (.indexSl el22 (.plain rfl) (.plain rfl) (fun _ => ⟨by omega, by omega⟩)) | apply Trace.pu [] (.indexSa el22 (.plain rfl) (.plain rfl) (fun _ => ⟨by omega, by omega⟩))
      apply Trace.pu [] (.fieldAddr fl49_0 (.plain rfl) rfl)
      apply Trace.pu [] ((Pure.loadRp ty27 (.plain rfl) (fun _ => by rw [Int.toNat_natCast, List.drop_zero]; have := tk_len hts (i := i) (by omega); exact Nat.le_trans (by decide) this)).to (y := .d (byD t.d)) (by rw [← hte, Int.toNat_natCast]; exact row_d hts (by omega)))
      apply Trace.pu [] (.move (.plain rfl))
      apply Trace.pu [] (.move (.plain rfl))
      first | apply Trace.pu [] (.indexRows el41 (.plain rfl) (.plain rfl) (fun _ => ⟨by omega, by omega⟩)) | apply Trace.pu [] (.indexOwn el41 (.plain rfl) (.plain rfl) (fun _ => ⟨by omega, by omega⟩)) | apply Trace.pu [] (.indexSl el41 (.plain rfl) (.plain rfl) (fun _ => ⟨by omega, by omega⟩)) | apply Trace.pu [] (.indexSa el41 (.plain rfl) (.plain rfl) (fun _ => ⟨by omega, by omega⟩))
      apply Trace.pu [] ((Pure.loadRp ty27 (.plain rfl) (fun _ => by rw [Int.toNat_natCast, p1]; exact Nat.le_refl _)).to (y := .d (byD k)) (by rw [Int.toNat_natCast, p2, hke]))
      apply Trace.pu [] (.aeq ba27 (.plain rfl) (.plain rfl) (fun _ => hdl) (fun _ => hkl))
      apply Trace.pu [] (.move (.plain rfl))
      apply Trace.pg [] rfl (.fieldAddr fl24_0 (.plain rfl) rfl)
      first | apply Trace.pg [_] rfl (.loadLoc1D ty22 (.gd rfl (fun h => h)) rfl rfl) | apply Trace.pg [_] rfl (.loadLoc1 ty22 (.gd rfl (fun h => h)) rfl rfl) | apply Trace.pg [] rfl (.loadRp1 ty22 (.gd rfl (fun h => h)) rfl) | apply Trace.pg [_] rfl (.loadCol1 ty22 (.gd rfl (fun h => h)) rfl rfl rfl (fun _ => by omega))
      apply Trace.pg [] rfl (.move (.plain rfl))
      first | apply Trace.pg [] rfl (.indexRows el22 (.gd rfl (fun h => h)) (.gd rfl (fun h => h)) (fun _ => ⟨by omega, by omega⟩)) | apply Trace.pg [] rfl (.indexOwn el22 (.gd rfl (fun h => h)) (.gd rfl (fun h => h)) (fun _ => ⟨by omega, by omega⟩)) | apply Trace.pg [] rfl (.indexSl el22 (.gd rfl (fun h => h)) (.gd rfl (fun h => h)) (fun _ => ⟨by omega, by omega⟩)) | apply Trace.pg [] rfl (.indexSa el22 (.gd rfl (fun h => h)) (.gd rfl (fun h => h)) (fun _ => ⟨by omega, by omega⟩))
      apply Trace.pg [] rfl (.fieldAddr fl49_1 (.gd rfl (fun h => h)) rfl)
      apply Trace.pg [] rfl (.loadRp1 ty25 (.gd rfl (fun h => h)) (r := intsD t.xs) (by rw [Int.toNat_natCast, ← hte]; exact row_x hts hlt))
      apply Trace.pg [] rfl (.move (.plain rfl))
      apply Trace.cg rfl (callArgs0 (.cons (.gd rfl (fun h => h)) (.cons (.gd rfl (fun h => h)) .nil))) (fun h => spec18 t.xs xs (by omega) hxl) en18
      apply Trace.pu [] (.pick (.plain rfl) (.gd rfl (by simp)) (.plain rfl))
      exact .nil _
    · rfl
    · exact keepOK_of hk hn rfl
    refine WPA.cond rfl (fun hc2 => ?_) (fun hc2 => ?_)
    · have hE : befB ts L ns n xs = true := befB_iff.2 (.inl ⟨t, htm, by
        rcases pick_eq hc2 with ⟨h1, h2⟩ | ⟨_, h⟩
        · exact ⟨(of_decide_eq_true h1).trans hke.symm, of_decide_eq_true h2⟩
        · cases h⟩)
      apply WPA.seq
      apply WPA.region
      · apply Trace.pu [] (.assign (.plain rfl))
        exact .nil _
      · exact keepOK_of hk hn rfl
      apply WPA.ret
      refine ⟨.inr rfl, ⟨_, (.cons (.tmp rfl) .nil), ?_⟩, by simp [St.get]⟩
      rw [hE]; rfl
    · have hno : ¬ (t.d = k ∧ t.xs = xs) := fun ⟨h1, h2⟩ => by
        rw [decide_eq_true h1, decide_eq_true h2] at hc2
        cases hc2
      apply WPA.skip
      apply WPA.region
      · apply Trace.pu [] (.move (.plain rfl))
        apply Trace.pu [] (.arith (.plain rfl) (.plain rfl) rfl (fun _ => bd64 (by omega)))
        apply Trace.pu [] (.assign (.plain rfl))
        exact .nil _
      · exact keepOK_of hk hn rfl
      exact ⟨i + 1, ⟨by omega, fun j hj => by
        by_cases h : j = i
        · rw [h, hte]; exact hno
        · exact hi.2 j (by omega)⟩, by omega, St.le_cons rfl (St.le_cons rfl (St.le_cons rfl (St.le_cons rfl (St.le_cons rfl (St.le_cons (iv_eq (by omega)) (St.le_cons rfl (St.le_nil _)))))))⟩
  · have hno1 : ∀ t ∈ ts, ¬ (t.d = k ∧ t.xs = xs) := fun t ht => by
      obtain ⟨j, hj, rfl⟩ := List.getElem_of_mem ht
      have := hi.2 j (by simp at hc1; omega)
      rwa [getD_tk hj] at this
    apply WPA.exit
    apply WPA.seq
    apply WPA.seq
    apply WPA.region
    · apply Trace.pu [] (.assign (.plain rfl))
      exact .nil _
    · exact keepOK_of hk hn rfl
    apply WPA.block
    refine WPA.loop (σ := Nat) (fun j => [(sl 1, .av (.d (listsD L))), (sl 2, .av (.d (digsD ns))), (sl 3, .av (iv .i64 (n : Int))), (sl 4, .av (.d (intsD xs))), (sl 12, .av (iv .i64 (j)))]) (fun j => j ≤ n ∧ ∀ m, m < j → ¬ (ns.getD m [] = k ∧ L.getD m [] = xs)) (fun j => n - j) 0
      (St.le_cons rfl (St.le_cons rfl (St.le_cons rfl (St.le_cons rfl (St.le_cons rfl (St.le_nil _)))))) ⟨Nat.zero_le _, fun j hj => absurd hj (by omega)⟩ fun j hj => ?_
    apply WPA.seq
    apply WPA.seq
    apply WPA.region
    · apply Trace.pu [] (.move (.plain rfl))
      apply Trace.pu [] (.move (.plain rfl))
      apply Trace.pu [] (.cmp (.plain rfl) (.plain rfl) rfl)
      exact .nil _
    · exact keepOK_of hk hn rfl
    refine WPA.cond rfl (fun hc3 => ?_) (fun hc3 => ?_)
    · have hjl : j < n := by simp at hc3; omega
      obtain ⟨q1, q2⟩ := dig_load hns (show j < ns.length by omega)
      obtain ⟨z, hze⟩ : ∃ z, ns.getD j [] = z := ⟨_, rfl⟩
      have hzm : z ∈ ns := by rw [← hze, List.getD_eq_getElem?_getD, List.getElem?_eq_getElem (by omega)]; exact List.getElem_mem (by omega)
      have hzl := hns z hzm
      obtain ⟨zs, hzs⟩ : ∃ zs, L.getD j [] = zs := ⟨_, rfl⟩
      have hzsl : zs.length ≤ 17592186044416 := by rw [← hzs, List.getD_eq_getElem?_getD, List.getElem?_eq_getElem (by omega)]; exact (hL _ (List.getElem_mem (by omega)))
      apply WPA.skip
      apply WPA.seq
      apply WPA.block
      apply WPA.seq
      apply WPA.draw mixed
      · apply Trace.pu [] (.move (.plain rfl))
        apply Trace.pu [] (.move (.plain rfl))
        first | apply Trace.pu [] (.indexRows el41 (.plain rfl) (.plain rfl) (fun _ => ⟨by omega, by omega⟩)) | apply Trace.pu [] (.indexOwn el41 (.plain rfl) (.plain rfl) (fun _ => ⟨by omega, by omega⟩)) | apply Trace.pu [] (.indexSl el41 (.plain rfl) (.plain rfl) (fun _ => ⟨by omega, by omega⟩)) | apply Trace.pu [] (.indexSa el41 (.plain rfl) (.plain rfl) (fun _ => ⟨by omega, by omega⟩))
        apply Trace.pu [] ((Pure.loadRp ty27 (.plain rfl) (fun _ => by rw [Int.toNat_natCast, q1]; exact Nat.le_refl _)).to (y := .d (byD z)) (by rw [Int.toNat_natCast, q2, hze]))
        apply Trace.pu [] (.move (.plain rfl))
        apply Trace.pu [] (.move (.plain rfl))
        first | apply Trace.pu [] (.indexRows el41 (.plain rfl) (.plain rfl) (fun _ => ⟨by omega, by omega⟩)) | apply Trace.pu [] (.indexOwn el41 (.plain rfl) (.plain rfl) (fun _ => ⟨by omega, by omega⟩)) | apply Trace.pu [] (.indexSl el41 (.plain rfl) (.plain rfl) (fun _ => ⟨by omega, by omega⟩)) | apply Trace.pu [] (.indexSa el41 (.plain rfl) (.plain rfl) (fun _ => ⟨by omega, by omega⟩))
        apply Trace.pu [] ((Pure.loadRp ty27 (.plain rfl) (fun _ => by rw [Int.toNat_natCast, p1]; exact Nat.le_refl _)).to (y := .d (byD k)) (by rw [Int.toNat_natCast, p2, hke]))
        apply Trace.pu [] (.aeq ba27 (.plain rfl) (.plain rfl) (fun _ => hzl) (fun _ => hkl))
        apply Trace.pu [] (.move (.plain rfl))
        apply Trace.pg [] rfl (.move (.plain rfl))
        apply Trace.pg [] rfl (.move (.plain rfl))
        apply Trace.pg [] rfl (.indexRows el46 (.gd rfl (fun h => h)) (.gd rfl (fun h => h)) (fun _ => ⟨by omega, by omega⟩))
        apply Trace.pg [] rfl (.loadRp1 ty25 (.gd rfl (fun h => h)) (r := intsD zs) (list_row hzs))
        apply Trace.pg [] rfl (.move (.plain rfl))
        apply Trace.cg rfl (callArgs0 (.cons (.gd rfl (fun h => h)) (.cons (.gd rfl (fun h => h)) .nil))) (fun h => spec18 zs xs (by omega) hxl) en18
        apply Trace.pu [] (.pick (.plain rfl) (.gd rfl (by simp)) (.plain rfl))
        exact .nil _
      · rfl
      · exact keepOK_of hk hn rfl
      refine WPA.cond rfl (fun hc4 => ?_) (fun hc4 => ?_)
      · have hE : befB ts L ns n xs = true := befB_iff.2 (.inr ⟨j, hjl, by
          rcases pick_eq hc4 with ⟨h1, h2⟩ | ⟨_, h⟩
          · exact ⟨hze.trans ((of_decide_eq_true h1).trans hke.symm), hzs.trans (of_decide_eq_true h2)⟩
          · cases h⟩)
        apply WPA.seq
        apply WPA.region
        · apply Trace.pu [] (.assign (.plain rfl))
          exact .nil _
        · exact keepOK_of hk hn rfl
        apply WPA.ret
        refine ⟨.inr rfl, ⟨_, (.cons (.tmp rfl) .nil), ?_⟩, by simp [St.get]⟩
        rw [hE]; rfl
      · have hno : ¬ (z = k ∧ zs = xs) := fun ⟨h1, h2⟩ => by
          rw [decide_eq_true h1, decide_eq_true h2] at hc4
          cases hc4
        apply WPA.skip
        apply WPA.region
        · apply Trace.pu [] (.move (.plain rfl))
          apply Trace.pu [] (.arith (.plain rfl) (.plain rfl) rfl (fun _ => bd64 (by omega)))
          apply Trace.pu [] (.assign (.plain rfl))
          exact .nil _
        · exact keepOK_of hk hn rfl
        exact ⟨j + 1, ⟨by omega, fun m hm => by
          by_cases h : m = j
          · rw [h, hze, hzs]; exact hno
          · exact hj.2 m (by omega)⟩, by omega, St.le_cons rfl (St.le_cons rfl (St.le_cons rfl (St.le_cons rfl (St.le_cons (iv_eq (by omega)) (St.le_nil _)))))⟩
    · have hE : befB ts L ns n xs = false := by
        cases h : befB ts L ns n xs with
        | false => rfl
        | true =>
          rcases befB_iff.1 h with ⟨t, h1, h2, h3⟩ | ⟨m, h1, h2, h3⟩
          · exact absurd ⟨h2.trans hke, h3⟩ (hno1 t h1)
          · exact absurd ⟨h2.trans hke, h3⟩ (hj.2 m (by simp at hc3; omega))
      apply WPA.exit
      apply WPA.seq
      apply WPA.region
      · apply Trace.pu [] (.assign (.plain rfl))
        exact .nil _
      · exact keepOK_of hk hn rfl
      apply WPA.ret
      refine ⟨.inr rfl, ⟨_, (.cons (.tmp rfl) .nil), ?_⟩, by simp [St.get]⟩
      rw [hE]; rfl
/-- soundpost/soundpostlaw25.PoolKept -/
theorem spec5 (ts : List Tk) (ht0 : ∀ t ∈ ts, t.Ok0) (L : List (List Int)) (hLn0 : L.length ≤ 140737488355328) (hL : ∀ xs ∈ L, (∀ x ∈ xs, -9223372036854775808 ≤ x ∧ x ≤ 9223372036854775807) ∧ xs.length ≤ 17592186044416) : FnSpec Tryd.prog 5 [.d (poolD ts), .d (listsD L)] [] (bv true) [] [] := by
  refine fnSpec_of (rs := [.tmp 4]) Tryd.func5 rfl rfl (Nat.le_of_ble_eq_true rfl) (by simp [St.get]) fun E hk hn => ?_
  apply WPA.seq
  apply WPA.region
  · apply Trace.boxD 2 [] (.plain rfl) rfl rfl
    apply Trace.pu [] (.assign (.plain rfl))
    exact .nil _
  · exact keepOK_of hk hn rfl
  apply WPA.seq
  apply WPA.seq
  apply WPA.region
  · apply Trace.cu (callArgs0 .nil) spec9 en9
    apply Trace.pu [] (.not (.plain rfl))
    exact .nil _
  · exact keepOK_of hk hn rfl
  refine WPA.cond rfl (fun hc1 => ?_) (fun hc1 => ?_)
  · cases hc1
  · apply WPA.skip
    apply WPA.seq
    apply WPA.seq
    apply WPA.region
    · apply Trace.pu [_] (.loadAllD ty24 (.plain rfl) rfl rfl)
      apply Trace.cu (callArgs0 (.cons (.plain rfl) .nil)) (spec10 ts ht0) en10
      apply Trace.pu [] (.not (.plain rfl))
      apply Trace.pu [] (.move (.plain rfl))
      apply Trace.pg [] rfl (.move (.plain rfl))
      apply Trace.pg [] rfl (.len rfl Tryd.underlying46 (.gd rfl (fun h => h)) rfl)
      apply Trace.pg [] rfl (.cmp (.gd rfl (fun h => h)) (.plain rfl) rfl)
      apply Trace.pu [] (.pick (.plain rfl) (.plain rfl) (.gd rfl (by simp)))
      apply Trace.pu [] (.move (.plain rfl))
      apply Trace.pg [_] rfl (.loadAllD ty24 (.plain rfl) rfl rfl)
      apply Trace.cg rfl (callArgs0 (.cons (.gd rfl (fun h => h)) .nil)) (fun h => fewChk ht0 (by
        cases hh : fewB ts with
        | true => rfl
        | false => rw [hh] at h; simp at h)) en19
      apply Trace.pg [] rfl (.cmp (.gd rfl (fun h => h)) (.plain rfl) rfl)
      apply Trace.pu [] (.pick (.plain rfl) (.plain rfl) (.gd rfl (by simp)))
      exact .nil _
    · exact keepOK_of hk hn rfl
    refine WPA.cond rfl (fun hc2 => ?_) (fun hc2 => ?_)
    · apply WPA.seq
      apply WPA.region
      · apply Trace.pu [] (.assign (.plain rfl))
        exact .nil _
      · exact keepOK_of hk hn rfl
      apply WPA.ret
      refine ⟨.inr rfl, ⟨_, (.cons (.tmp rfl) .nil), ?_⟩, by simp [St.get]⟩
      rfl
    · have hf : fewB ts = true ∧ L.length ≤ 12 ∧ chk ts = true := by
        cases h : fewB ts with
        | false => rw [h] at hc2; simp at hc2
        | true =>
          rw [h] at hc2
          by_cases h1 : L.length ≤ 12
          · cases h2 : chk ts with
            | true => exact ⟨rfl, h1, rfl⟩
            | false => simp [ckE, h2] at hc2
          · simp [show (12 : Int) < L.length by omega] at hc2
      obtain ⟨hf, hLl, hC⟩ := hf
      obtain ⟨h8, hto0⟩ := fewB_ok ht0 hf
      have hts : ∀ t ∈ ts, t.Ok := fun t h => (hto0 t h).1
      have hI0 := KInv.start (L := L) hC hts
      apply WPA.skip
      apply WPA.seq
      apply WPA.region
      · apply Trace.pu [_] (.loadAllD ty24 (.plain rfl) rfl rfl)
        apply Trace.alloc 5 [] (.data _) zo24 (cellsAs_data _) rfl
        apply Trace.storeD ty24 (.plain rfl) (.plain rfl) rfl rfl rfl (by simp [AV.oneB, single]) (Nat.le_of_ble_eq_true rfl) rfl
        exact .nil _
      · exact keepOK_of hk hn rfl
      apply WPA.seq
      apply WPA.region
      · apply Trace.pu [] (.assign (.plain rfl))
        exact .nil _
      · exact keepOK_of hk hn rfl
      apply WPA.seq
      apply WPA.seq
      apply WPA.region
      · apply Trace.pu [] (.assign (.plain rfl))
        exact .nil _
      · exact keepOK_of hk hn rfl
      apply WPA.block
      refine WPA.ghost (Ghost.ownNil' (t := 6) (l := 6) (n := 32) (cs := digCols []) rfl rfl (by rw [hk]; decide) (by rw [hn]; decide) (digCols_length _) (digCols_len [])) ?_
      refine WPA.loop (σ := List Tk × List (List Int)) (fun s => [(sl 1, .av (.d (listsD L))), (sl 2, .av (.loc 2 0)), (sl 5, .av (.loc 5 0)), (sl 6, .av (.own 6 s.2.length)), (sl 7, .av (iv .i64 (s.2.length : Int))), (bk 2, .blk (.data [tksD ts])), (bk 5, .blk (.data [tksD s.1])), (bk 6, .blk (.app 32 s.2.length (digCols s.2)))]) (fun s => KInv ts L s.1 s.2 ∧ s.2.length ≤ L.length) (fun s => L.length - s.2.length) (ts, [])
        (St.le_cons rfl (St.le_cons rfl (St.le_cons rfl (St.le_cons rfl (St.le_cons rfl (St.le_cons rfl (St.le_cons rfl (St.le_cons rfl (St.le_nil _))))))))) ⟨hI0, Nat.zero_le _⟩ fun s hs => ?_
      obtain ⟨x, ns⟩ := s
      obtain ⟨hI, hnl⟩ := hs
      simp only at hI hnl
      dsimp only
      have hxo := hI.ok
      have hxl := hI.len
      have hnm := hI.nm
      apply WPA.seq
      apply WPA.seq
      apply WPA.region
      · apply Trace.pu [] (.move (.plain rfl))
        apply Trace.pu [] (.move (.plain rfl))
        apply Trace.pu [] (.len rfl Tryd.underlying46 (.plain rfl) rfl)
        apply Trace.pu [] (.cmp (.plain rfl) (.plain rfl) rfl)
        exact .nil _
      · exact keepOK_of hk hn rfl
      refine WPA.cond rfl (fun hc3 => ?_) (fun hc3 => ?_)
      · have hlt : ns.length < L.length := by simp at hc3; omega
        obtain ⟨zs, hze⟩ : ∃ zs, L.getD ns.length [] = zs := ⟨_, rfl⟩
        have hzm : zs ∈ L := by rw [← hze, List.getD_eq_getElem?_getD, List.getElem?_eq_getElem hlt]; exact List.getElem_mem hlt
        have hzb := (hL zs hzm).1
        have hzl := (hL zs hzm).2
        apply WPA.skip
        apply WPA.seq
        apply WPA.block
        apply WPA.seq
        apply WPA.seq
        apply WPA.region
        · apply Trace.pu [] (.move (.plain rfl))
          apply Trace.pu [] (.move (.plain rfl))
          first | apply Trace.pu [] (.indexRows el46 (.plain rfl) (.plain rfl) (fun _ => ⟨by omega, by omega⟩)) | apply Trace.pu [] (.indexOwn el46 (.plain rfl) (.plain rfl) (fun _ => ⟨by omega, by omega⟩)) | apply Trace.pu [] (.indexSl el46 (.plain rfl) (.plain rfl) (fun _ => ⟨by omega, by omega⟩)) | apply Trace.pu [] (.indexSa el46 (.plain rfl) (.plain rfl) (fun _ => ⟨by omega, by omega⟩))
          apply Trace.pu [] (.loadRp1 ty25 (.plain rfl) (r := intsD zs) (list_row hze))
          apply Trace.pu [] (.len rfl Tryd.underlying25 (.plain rfl) rfl)
          apply Trace.pu [] (.cmp (.plain rfl) (.plain rfl) rfl)
          exact .nil _
        · exact keepOK_of hk hn rfl
        refine WPA.cond rfl (fun hc4 => ?_) (fun hc4 => ?_)
        · apply WPA.seq
          apply WPA.region
          · apply Trace.pu [] (.assign (.plain rfl))
            exact .nil _
          · exact keepOK_of hk hn rfl
          apply WPA.ret
          refine ⟨.inr rfl, ⟨_, (.cons (.tmp rfl) .nil), ?_⟩, by simp [St.get]⟩
          rfl
        · have hz200 : zs.length ≤ 200 := by simp at hc4; omega
          obtain ⟨us, d, e, hP⟩ : ∃ us d e, putE x zs = (us, d, e) := ⟨_, _, _, rfl⟩
          obtain ⟨huo, hul, hdl, hdb⟩ := putE_ok hxo (by omega) hzb hP
          obtain ⟨hst1, hst2⟩ := hI.step (by omega) hzb hze hP
          apply WPA.skip
          apply WPA.seq
          apply WPA.draw mixed
          · apply Trace.pu [_] (.loadAllD ty24 (.plain rfl) rfl rfl)
            apply Trace.pu [] (.move (.plain rfl))
            apply Trace.pu [] (.move (.plain rfl))
            first | apply Trace.pu [] (.indexRows el46 (.plain rfl) (.plain rfl) (fun _ => ⟨by omega, by omega⟩)) | apply Trace.pu [] (.indexOwn el46 (.plain rfl) (.plain rfl) (fun _ => ⟨by omega, by omega⟩)) | apply Trace.pu [] (.indexSl el46 (.plain rfl) (.plain rfl) (fun _ => ⟨by omega, by omega⟩)) | apply Trace.pu [] (.indexSa el46 (.plain rfl) (.plain rfl) (fun _ => ⟨by omega, by omega⟩))
            apply Trace.pu [] (.loadRp1 ty25 (.plain rfl) (r := intsD zs) (list_row hze))
            apply Trace.ct (callArgs0 (.cons (.plain rfl) (.cons (.plain rfl) .nil))) (putF hxo (by omega) (by omega) hzb hP) en11
            apply Trace.pu [] (.move (.plain rfl))
            apply Trace.pu [] (.extract (.plain rfl) rfl)
            apply Trace.pu [] (.extract (.plain rfl) rfl)
            apply Trace.pu [] (.extract (.plain rfl) rfl)
            apply Trace.alloc 8 [] (.data _) zo24 (cellsAs_data _) rfl
            apply Trace.alloc 9 [] (.data (List.replicate 32 (D.v (.int .u8 0)))) zo27 (cellsAs_data _) rfl
            apply Trace.storeD ty24 (.plain rfl) (.plain rfl) rfl rfl rfl (by simp [AV.oneB, single]) (Nat.le_of_ble_eq_true rfl) rfl
            apply Trace.storeD (cs' := d.map fun x => .v (.int .u8 x)) ty27 (.plain rfl) (.plain rfl) rfl rfl (by simp [hdl]) (by_one _) (by decide) (spliceL_all (by simp [hdl]))
            apply Trace.pu [] (.assign (.plain rfl))
            exact .nil _
          · rfl
          · exact keepOK_of hk hn rfl
          apply WPA.seq
          apply WPA.seq
          apply WPA.region
          · apply Trace.pu [] (.move (.plain rfl))
            apply Trace.pu [] (.cmp (.plain rfl) (.plain rfl) rfl)
            exact .nil _
          · exact keepOK_of hk hn rfl
          refine WPA.cond rfl (fun hc5 => ?_) (fun hc5 => ?_)
          · have hne : e ≠ 0 := by simpa using hc5
            obtain ⟨rfl, hI2⟩ := hst1 hne
            apply WPA.seq
            apply WPA.seq
            apply WPA.region
            · apply Trace.pu [] (.fieldAddr fl24_0 (.plain rfl) rfl)
              first | apply Trace.pu [_] (.loadLoc1D ty22 (.plain rfl) rfl rfl) | apply Trace.pu [_] (.loadLoc1 ty22 (.plain rfl) rfl rfl) | apply Trace.pu [] (.loadRp1 ty22 (.plain rfl) rfl) | apply Trace.pu [_] (.loadCol1 ty22 (.plain rfl) rfl rfl rfl (fun _ => by omega))
              apply Trace.pu [] (.len rfl Tryd.underlying22 (.plain rfl) rfl)
              apply Trace.pu [] (.cmp (.plain rfl) (.plain rfl) rfl)
              exact .nil _
            · exact keepOK_of hk hn rfl
            refine WPA.cond rfl (fun hc6 => ?_) (fun hc6 => ?_)
            · cases hc6
            · apply WPA.skip
              apply WPA.seq
              apply WPA.region
              · apply Trace.pu [] (.move (.plain rfl))
                apply Trace.pu [] ((Pure.build zo27 pl27 (.nil _ _) rfl).to (y := .d (byD zero32)) rfl)
                apply Trace.buildOne so41 zo27 rfl (by decide) (by decide) (.plain rfl) rfl
                apply Trace.append 6 [sl 6, sl 61] ap41 kd41 (by decide) (.own (.plain rfl) rfl) (.rows (cs := digCols [zero32]) (.plain rfl) (digCols_length _) (fun c hc => by rw [digCols_len _ c hc]; rfl) (digs_one rfl)) (digCols_one _) (labs_ok rfl) (by omega) (by omega) (digCols_cat _ _) rfl
                apply Trace.pu [] (.assign (.plain rfl))
                exact .nil _
              · exact keepOK_of hk hn rfl
              apply WPA.exit
              apply WPA.region
              · apply Trace.pu [] (.move (.plain rfl))
                apply Trace.pu [] (.arith (.plain rfl) (.plain rfl) rfl (fun _ => bd64 (by omega)))
                apply Trace.pu [] (.assign (.plain rfl))
                exact .nil _
              · exact keepOK_of hk hn rfl
              exact ⟨(_, _), ⟨hI2, by simp; omega⟩, by simp; omega, St.le_cons rfl (St.le_cons rfl (St.le_cons rfl (St.le_cons (digOwn_eq (by simp)) (St.le_cons (iv_eq (by simp)) (St.le_cons rfl (St.le_cons rfl (St.le_cons (digApp_eq rfl (by simp)) (St.le_nil _))))))))⟩
          · have he : e = 0 := by simpa using hc5
            have hI2 := hst2 he
            have hck : ckE us = 0 := by unfold ckE; rw [hI2.ck]; rfl
            apply WPA.skip
            apply WPA.seq
            apply WPA.region
            · apply Trace.pu [] (.move (.plain rfl))
              apply Trace.pu [_] (.loadAllD ty27 (.plain rfl) rfl (by simp [hdl]))
              apply Trace.buildOne so41 zo27 rfl (by decide) (by decide) (.plain rfl) (by simp [hdl])
              apply Trace.append 6 [sl 6, sl 65] ap41 kd41 (by decide) (.own (.plain rfl) rfl) (.rows (cs := digCols [d]) (.plain rfl) (digCols_length _) (fun c hc => by rw [digCols_len _ c hc]; rfl) (digs_one hdl)) (digCols_one _) (labs_ok rfl) (by omega) (by omega) (digCols_cat _ _) rfl
              apply Trace.pu [] (.assign (.plain rfl))
              exact .nil _
            · exact keepOK_of hk hn rfl
            apply WPA.seq
            apply WPA.region
            · apply Trace.pu [_] (.loadAllD ty24 (.plain rfl) rfl rfl)
              apply Trace.storeD ty24 (.plain rfl) (.plain rfl) rfl rfl rfl (by simp [AV.oneB, single, spliceL]) (Nat.le_of_ble_eq_true rfl) rfl
              exact .nil _
            · exact keepOK_of hk hn rfl
            apply WPA.seq
            apply WPA.region
            · apply Trace.pu [_] (.loadAllD ty24 (.plain rfl) rfl rfl)
              apply Trace.cu (callArgs0 (.cons (.plain rfl) .nil)) (checkF huo (by omega) hck) en19
              apply Trace.pu [] (.cmp (.plain rfl) (.plain rfl) rfl)
              exact .nil _
            · exact keepOK_of hk hn rfl
            refine WPA.cond rfl (fun hc7 => ?_) (fun hc7 => ?_)
            · cases hc7
            · apply WPA.skip
              apply WPA.region
              · apply Trace.pu [] (.move (.plain rfl))
                apply Trace.pu [] (.arith (.plain rfl) (.plain rfl) rfl (fun _ => bd64 (by omega)))
                apply Trace.pu [] (.assign (.plain rfl))
                exact .nil _
              · exact keepOK_of hk hn rfl
              exact ⟨(_, _), ⟨hI2, by simp; omega⟩, by simp; omega, St.le_cons rfl (St.le_cons rfl (St.le_cons rfl (St.le_cons (digOwn_eq (by simp)) (St.le_cons (iv_eq (by simp)) (St.le_cons rfl (St.le_cons rfl (St.le_cons (digApp_eq rfl (by simp)) (St.le_nil _))))))))⟩
      · have hend : ns.length = L.length := by simp at hc3; omega
        have hns : ∀ k ∈ ns, k.length = 32 := fun k h => (hnm k h).1
        apply WPA.exit
        apply WPA.seq
        apply WPA.seq
        refine WPA.ghost (Ghost.freezeAs (t := 6) (l := 6) (g := digRow ns) rfl rfl (fun i hi => digCols_row hns hi)) ?_
        apply WPA.region
        · apply Trace.pu [] (.assign (.plain rfl))
          exact .nil _
        · exact keepOK_of hk hn rfl
        apply WPA.block
        refine WPA.loop (σ := Nat) (fun i => [(sl 1, .av (.d (listsD L))), (sl 2, .av (.loc 2 0)), (sl 5, .av (.loc 5 0)), (sl 6, .av (.d (digsD ns))), (sl 11, .av (iv .i64 (i))), (bk 2, .blk (.data [tksD ts])), (bk 5, .blk (.data [tksD x]))]) (fun i => i ≤ L.length) (fun i => L.length - i) 0
          (St.le_cons rfl (St.le_cons rfl (St.le_cons rfl (St.le_cons rfl (St.le_cons rfl (St.le_cons rfl (St.le_cons rfl (St.le_nil _)))))))) (Nat.zero_le _) fun i hi => ?_
        apply WPA.seq
        apply WPA.seq
        apply WPA.region
        · apply Trace.pu [] (.move (.plain rfl))
          apply Trace.pu [] (.move (.plain rfl))
          apply Trace.pu [] (.len rfl Tryd.underlying46 (.plain rfl) rfl)
          apply Trace.pu [] (.cmp (.plain rfl) (.plain rfl) rfl)
          exact .nil _
        · exact keepOK_of hk hn rfl
        refine WPA.cond rfl (fun hc8 => ?_) (fun hc8 => ?_)
        · have hlt : i < ns.length := by simp at hc8; omega
          obtain ⟨q1, q2⟩ := dig_load hns hlt
          obtain ⟨k, hke⟩ : ∃ k, ns.getD i [] = k := ⟨_, rfl⟩
          have hkm : k ∈ ns := by rw [← hke, List.getD_eq_getElem?_getD, List.getElem?_eq_getElem hlt]; exact List.getElem_mem hlt
          have hkl := (hnm k hkm).1
          have hkb := (hnm k hkm).2
          obtain ⟨zs, hze⟩ : ∃ zs, L.getD i [] = zs := ⟨_, rfl⟩
          have hzm : zs ∈ L := by rw [← hze, List.getD_eq_getElem?_getD, List.getElem?_eq_getElem (by omega)]; exact List.getElem_mem (by omega)
          have hzl := (hL zs hzm).2
          apply WPA.skip
          apply WPA.seq
          apply WPA.block
          apply WPA.seq
          apply WPA.seq
          apply WPA.region
          · apply Trace.pu [] (.move (.plain rfl))
            apply Trace.pu [] (.move (.plain rfl))
            first | apply Trace.pu [] (.indexRows el41 (.plain rfl) (.plain rfl) (fun _ => ⟨by omega, by omega⟩)) | apply Trace.pu [] (.indexOwn el41 (.plain rfl) (.plain rfl) (fun _ => ⟨by omega, by omega⟩)) | apply Trace.pu [] (.indexSl el41 (.plain rfl) (.plain rfl) (fun _ => ⟨by omega, by omega⟩)) | apply Trace.pu [] (.indexSa el41 (.plain rfl) (.plain rfl) (fun _ => ⟨by omega, by omega⟩))
            apply Trace.pu [] ((Pure.loadRp ty27 (.plain rfl) (fun _ => by rw [Int.toNat_natCast, q1]; exact Nat.le_refl _)).to (y := .d (byD k)) (by rw [Int.toNat_natCast, q2, hke]))
            apply Trace.pu [] ((Pure.build zo27 pl27 (.nil _ _) rfl).to (y := .d (byD zero32)) rfl)
            apply Trace.pu [] (.aeq ba27 (.plain rfl) (.plain rfl) (fun _ => hkl) (fun _ => rfl))
            exact .nil _
          · exact keepOK_of hk hn rfl
          refine WPA.cond rfl (fun hc9 => ?_) (fun hc9 => ?_)
          · apply WPA.exit
            apply WPA.region
            · apply Trace.pu [] (.move (.plain rfl))
              apply Trace.pu [] (.arith (.plain rfl) (.plain rfl) rfl (fun _ => bd64 (by omega)))
              apply Trace.pu [] (.assign (.plain rfl))
              exact .nil _
            · exact keepOK_of hk hn rfl
            exact ⟨i + 1, by omega, by omega, St.le_cons rfl (St.le_cons rfl (St.le_cons rfl (St.le_cons rfl (St.le_cons (iv_eq (by omega)) (St.le_cons rfl (St.le_cons rfl (St.le_nil _)))))))⟩
          · have hkz : k ≠ zero32 := by simpa using hc9
            obtain ⟨t, htx, hG, hfin⟩ := hI.found hlt (by rw [hke]; exact hkz)
            rw [hke] at hG
            rw [hze] at hfin
            have hfw := (hxo t htx).few
            apply WPA.skip
            apply WPA.seq
            apply WPA.draw mixed
            · apply Trace.pu [_] (.loadAllD ty24 (.plain rfl) rfl rfl)
              apply Trace.pu [] (.move (.plain rfl))
              apply Trace.pu [] (.move (.plain rfl))
              first | apply Trace.pu [] (.indexRows el41 (.plain rfl) (.plain rfl) (fun _ => ⟨by omega, by omega⟩)) | apply Trace.pu [] (.indexOwn el41 (.plain rfl) (.plain rfl) (fun _ => ⟨by omega, by omega⟩)) | apply Trace.pu [] (.indexSl el41 (.plain rfl) (.plain rfl) (fun _ => ⟨by omega, by omega⟩)) | apply Trace.pu [] (.indexSa el41 (.plain rfl) (.plain rfl) (fun _ => ⟨by omega, by omega⟩))
              apply Trace.pu [] ((Pure.loadRp ty27 (.plain rfl) (fun _ => by rw [Int.toNat_natCast, q1]; exact Nat.le_refl _)).to (y := .d (byD k)) (by rw [Int.toNat_natCast, q2, hke]))
              apply Trace.ct (callArgs0 (.cons (.plain rfl) (.cons (.plain rfl) .nil))) (getF hxo (by omega) hkl hkb hG) en13
              apply Trace.pu [] (.move (.plain rfl))
              apply Trace.pu [] (.extract (.plain rfl) rfl)
              apply Trace.pu [] (.extract (.plain rfl) rfl)
              apply Trace.pu [] (.assign (.plain rfl))
              apply Trace.pu [] (.assign (.plain rfl))
              exact .nil _
            · rfl
            · exact keepOK_of hk hn rfl
            apply WPA.seq
            apply WPA.region
            · apply Trace.pu [] (.move (.plain rfl))
              apply Trace.pu [] (.cmp (.plain rfl) (.plain rfl) rfl)
              apply Trace.pu [] (.move (.plain rfl))
              apply Trace.pg [] rfl (.move (.plain rfl))
              apply Trace.pg [] rfl (.move (.plain rfl))
              apply Trace.pg [] rfl (.move (.plain rfl))
              apply Trace.pg [] rfl (.indexRows el46 (.gd rfl (fun h => h)) (.gd rfl (fun h => h)) (fun _ => ⟨by omega, by omega⟩))
              apply Trace.pg [] rfl (.loadRp1 ty25 (.gd rfl (fun h => h)) (r := intsD zs) (list_row hze))
              apply Trace.cg rfl (callArgs0 (.cons (.gd rfl (fun h => h)) (.cons (.gd rfl (fun h => h)) .nil))) (fun h => spec18 t.xs zs (by omega) (by omega)) en18
              apply Trace.pg [] rfl (.not (.gd rfl (fun h => h)))
              apply Trace.pg [] rfl (.move (.gd rfl (fun h => h)))
              apply Trace.pg [_] rfl (.loadAllD ty24 (.plain rfl) rfl rfl)
              apply Trace.pg [] rfl (.move (.plain rfl))
              apply Trace.pg [] rfl (.move (.plain rfl))
              apply Trace.pg [] rfl (.move (.plain rfl))
              apply Trace.pg [] rfl (.move (.plain rfl))
              apply Trace.cg rfl (callArgs0 (.cons (.gd rfl (fun h => h)) (.cons (.gd rfl (fun h => h)) (.cons (.gd rfl (fun h => h)) (.cons (.gd rfl (fun h => h)) (.cons (.gd rfl (fun h => h)) .nil)))))) (fun h => spec25 ts hts (by omega) L ns (fun z hz => (hL z hz).2) hns (by omega) i hlt (by omega) t.xs (by omega)) en25
              apply Trace.pg [] rfl (.not (.gd rfl (fun h => h)))
              apply Trace.pg [] rfl (.pick (.gd rfl (fun h => h)) (.gd rfl (by simp)) (.plain rfl))
              apply Trace.pu [] (.pick (.plain rfl) (.plain rfl) (.gd rfl (by simp)))
              exact .nil _
            · exact keepOK_of hk hn rfl
            refine WPA.cond rfl (fun hc10 => ?_) (fun hc10 => ?_)
            · rcases hfin with h | h
              · rw [h] at hc10
                simp at hc10
              · rw [h] at hc10
                cases hd : decide (t.xs = zs) <;> simp [hd] at hc10
            · apply WPA.skip
              apply WPA.region
              · apply Trace.pu [] (.move (.plain rfl))
                apply Trace.pu [] (.arith (.plain rfl) (.plain rfl) rfl (fun _ => bd64 (by omega)))
                apply Trace.pu [] (.assign (.plain rfl))
                exact .nil _
              · exact keepOK_of hk hn rfl
              exact ⟨i + 1, by omega, by omega, St.le_cons rfl (St.le_cons rfl (St.le_cons rfl (St.le_cons rfl (St.le_cons (iv_eq (by omega)) (St.le_cons rfl (St.le_cons rfl (St.le_nil _)))))))⟩
        · have hSx := (chk_iff.1 hI.ck).1
          have hold := hI.old
          apply WPA.exit
          apply WPA.seq
          apply WPA.seq
          apply WPA.region
          · apply Trace.pu [] (.assign (.plain rfl))
            exact .nil _
          · exact keepOK_of hk hn rfl
          apply WPA.block
          refine WPA.loop (σ := Nat) (fun i => [(sl 1, .av (.d (listsD L))), (sl 2, .av (.loc 2 0)), (sl 5, .av (.loc 5 0)), (sl 6, .av (.d (digsD ns))), (sl 14, .av (iv .i64 (i))), (bk 2, .blk (.data [tksD ts])), (bk 5, .blk (.data [tksD x]))]) (fun i => i ≤ ts.length) (fun i => ts.length - i) 0
            (St.le_cons rfl (St.le_cons rfl (St.le_cons rfl (St.le_cons rfl (St.le_cons rfl (St.le_cons rfl (St.le_cons rfl (St.le_nil _)))))))) (Nat.zero_le _) fun i hi => ?_
          apply WPA.seq
          apply WPA.seq
          apply WPA.region
          · apply Trace.pu [] (.move (.plain rfl))
            apply Trace.pu [] (.fieldAddr fl24_0 (.plain rfl) rfl)
            first | apply Trace.pu [_] (.loadLoc1D ty22 (.plain rfl) rfl rfl) | apply Trace.pu [_] (.loadLoc1 ty22 (.plain rfl) rfl rfl) | apply Trace.pu [] (.loadRp1 ty22 (.plain rfl) rfl) | apply Trace.pu [_] (.loadCol1 ty22 (.plain rfl) rfl rfl rfl (fun _ => by omega))
            apply Trace.pu [] (.len rfl Tryd.underlying22 (.plain rfl) rfl)
            apply Trace.pu [] (.cmp (.plain rfl) (.plain rfl) rfl)
            exact .nil _
          · exact keepOK_of hk hn rfl
          refine WPA.cond rfl (fun hc11 => ?_) (fun hc11 => ?_)
          · have hlt : i < ts.length := by simp at hc11; omega
            obtain ⟨t, hte⟩ : ∃ t, ts.getD i default = t := ⟨_, rfl⟩
            have htm : t ∈ ts := by rw [← hte]; exact getD_mem' hlt
            have hto : t.Ok := hts _ htm
            have hdl := hto.len
            have hdb := hto.byt
            have hfw := hto.few
            have hL1 := look_mem hSx (hold t htm)
            apply WPA.skip
            apply WPA.seq
            apply WPA.block
            apply WPA.seq
            apply WPA.draw mixed
            · apply Trace.pu [_] (.loadAllD ty24 (.plain rfl) rfl rfl)
              apply Trace.pu [] (.fieldAddr fl24_0 (.plain rfl) rfl)
              first | apply Trace.pu [_] (.loadLoc1D ty22 (.plain rfl) rfl rfl) | apply Trace.pu [_] (.loadLoc1 ty22 (.plain rfl) rfl rfl) | apply Trace.pu [] (.loadRp1 ty22 (.plain rfl) rfl) | apply Trace.pu [_] (.loadCol1 ty22 (.plain rfl) rfl rfl rfl (fun _ => by omega))
              apply Trace.pu [] (.move (.plain rfl))
              first | apply Trace.pu [] (.indexRows el22 (.plain rfl) (.plain rfl) (fun _ => ⟨by omega, by omega⟩)) | apply Trace.pu [] (.indexOwn el22 (.plain rfl) (.plain rfl) (fun _ => ⟨by omega, by omega⟩)) | apply Trace.pu [] (.indexSl el22 (.plain rfl) (.plain rfl) (fun _ => ⟨by omega, by omega⟩)) | apply Trace.pu [] (.indexSa el22 (.plain rfl) (.plain rfl) (fun _ => ⟨by omega, by omega⟩))
              apply Trace.pu [] (.fieldAddr fl49_0 (.plain rfl) rfl)
              apply Trace.pu [] ((Pure.loadRp ty27 (.plain rfl) (fun _ => by rw [Int.toNat_natCast, List.drop_zero]; have := tk_len hts (i := i) (by omega); exact Nat.le_trans (by decide) this)).to (y := .d (byD t.d)) (by rw [← hte, Int.toNat_natCast]; exact row_d hts (by omega)))
              apply Trace.ct (callArgs0 (.cons (.plain rfl) (.cons (.plain rfl) .nil))) (lookF hxo (by omega) hdl hdb hL1) en15
              apply Trace.pu [] (.move (.plain rfl))
              apply Trace.pu [] (.extract (.plain rfl) rfl)
              apply Trace.pu [] (.extract (.plain rfl) rfl)
              apply Trace.pu [] (.assign (.plain rfl))
              apply Trace.pu [] (.assign (.plain rfl))
              exact .nil _
            · rfl
            · exact keepOK_of hk hn rfl
            apply WPA.seq
            apply WPA.region
            · apply Trace.pu [] (.move (.plain rfl))
              apply Trace.pu [] (.not (.plain rfl))
              apply Trace.pu [] (.move (.plain rfl))
              apply Trace.og rfl
              apply Trace.pu [] (.move (.plain rfl))
              apply Trace.og rfl
              apply Trace.pu [] (.fieldAddr fl24_0 (.plain rfl) rfl)
              apply Trace.og rfl
              first | apply Trace.pu [_] (.loadLoc1D ty22 (.plain rfl) rfl rfl) | apply Trace.pu [_] (.loadLoc1 ty22 (.plain rfl) rfl rfl) | apply Trace.pu [] (.loadRp1 ty22 (.plain rfl) rfl) | apply Trace.pu [_] (.loadCol1 ty22 (.plain rfl) rfl rfl rfl (fun _ => by omega))
              apply Trace.og rfl
              apply Trace.pu [] (.move (.plain rfl))
              apply Trace.og rfl
              first | apply Trace.pu [] (.indexRows el22 (.plain rfl) (.plain rfl) (fun _ => ⟨by omega, by omega⟩)) | apply Trace.pu [] (.indexOwn el22 (.plain rfl) (.plain rfl) (fun _ => ⟨by omega, by omega⟩)) | apply Trace.pu [] (.indexSl el22 (.plain rfl) (.plain rfl) (fun _ => ⟨by omega, by omega⟩)) | apply Trace.pu [] (.indexSa el22 (.plain rfl) (.plain rfl) (fun _ => ⟨by omega, by omega⟩))
              apply Trace.og rfl
              apply Trace.pu [] (.fieldAddr fl49_1 (.plain rfl) rfl)
              apply Trace.og rfl
              apply Trace.pu [] (.loadRp1 ty25 (.plain rfl) (r := intsD t.xs) (by rw [Int.toNat_natCast, ← hte]; exact row_x hts hlt))
              apply Trace.og rfl
              apply Trace.cu (callArgs0 (.cons (.plain rfl) (.cons (.plain rfl) .nil))) (intsT hfw hfw (decide_eq_true rfl)) en18
              apply Trace.og rfl
              apply Trace.pu [] (.not (.plain rfl))
              apply Trace.pu [] (.pick (.plain rfl) (.plain rfl) (.plain rfl))
              exact .nil _
            · exact keepOK_of hk hn rfl
            refine WPA.cond rfl (fun hc12 => ?_) (fun hc12 => ?_)
            · cases hc12
            · apply WPA.skip
              apply WPA.region
              · apply Trace.pu [] (.move (.plain rfl))
                apply Trace.pu [] (.arith (.plain rfl) (.plain rfl) rfl (fun _ => bd64 (by omega)))
                apply Trace.pu [] (.assign (.plain rfl))
                exact .nil _
              · exact keepOK_of hk hn rfl
              exact ⟨i + 1, by omega, by omega, St.le_cons rfl (St.le_cons rfl (St.le_cons rfl (St.le_cons rfl (St.le_cons (iv_eq (by omega)) (St.le_cons rfl (St.le_cons rfl (St.le_nil _)))))))⟩
          · apply WPA.exit
            apply WPA.seq
            apply WPA.region
            · apply Trace.pu [] (.assign (.plain rfl))
              exact .nil _
            · exact keepOK_of hk hn rfl
            apply WPA.ret
            refine ⟨.inr rfl, ⟨_, (.cons (.tmp rfl) .nil), ?_⟩, by simp [St.get]⟩
            rfl

end Go.Proofs.YtmdfamnnnoieaaaDoor

