import Derived.Test.YtcidkahhfdcddaaPkD
/- certify of the reference: Flow, Bound, Check. -/
namespace Go.Proofs.Ytcidkahhfdcddaa
open Go
set_option linter.unusedVariables false
set_option linter.unusedSimpArgs false
set_option maxRecDepth 10000
set_option maxHeartbeats 1000000

def Gr.diffTo (g : Gr) (l : List Int) (v : Int) (i : Nat) : Int := sm i fun k => (if (g.ed k).t = v then l.getD k 0 else 0) - (if (g.ed k).f = v then l.getD k 0 else 0)
theorem diffTo_succ (g : Gr) (l : List Int) (v : Int) (i : Nat) : g.diffTo l v (i + 1) = g.diffTo l v i + ((if (g.ed i).t = v then l.getD i 0 else 0) - (if (g.ed i).f = v then l.getD i 0 else 0)) := rfl
theorem diffTo_bd {g : Gr} {l : List Int} (v : Int) : ∀ i, (∀ j, j < i → 0 ≤ l.getD j 0 ∧ l.getD j 0 ≤ 1048576) → -((i : Int) * 1048576) ≤ g.diffTo l v i ∧ g.diffTo l v i ≤ (i : Int) * 1048576
  | 0, _ => ⟨by show _ ≤ (0 : Int); omega, by show (0 : Int) ≤ _; omega⟩
  | i + 1, h => by
    have ih := diffTo_bd (g := g) v i fun j hj => h j (by omega)
    have b := h i (by omega)
    rw [diffTo_succ]
    split <;> split <;> omega
theorem left_diff {g : Gr} (h : g.OK) (fl : List Int) (v : Nat) : ∀ i, i ≤ g.es.length → (leftTo g fl i).getD v 0 = g.diffTo g.ws v i - g.diffTo fl v i
  | 0, _ => by
    have : (leftTo g fl 0).getD v 0 = 0 := by
      show (List.replicate g.lat.length 0).getD v 0 = 0
      simp only [List.getD_eq_getElem?_getD, List.getElem?_replicate]; split <;> rfl
    rw [this]; rfl
  | i + 1, hi => by
    have ih := left_diff h fl v i (by omega)
    obtain ⟨_, he1, he2, he3, he4⟩ := Gr.edge h (j := i) (by omega)
    have hm := Gr.edge_mem h (e := g.ed i) (Gr.edge h (j := i) (by omega)).1
    have he1 : (g.ed i).f.toNat < g.lat.length := he1
    have he2 : (g.ed i).t.toNat < g.lat.length := he2
    have hf0 : 0 ≤ (g.ed i).f := hm.1
    have ht0 : 0 ≤ (g.ed i).t := hm.2.2.1
    have hl := leftTo_len g fl i
    have hw : g.ws.getD i 0 = (g.ed i).w := ws_at (by omega)
    rw [diffTo_succ, diffTo_succ, hw]
    show (((leftTo g fl i).set (g.ed i).t.toNat ((leftTo g fl i).getD (g.ed i).t.toNat 0 + ((g.ed i).w - fn fl i))).set (g.ed i).f.toNat (((leftTo g fl i).set (g.ed i).t.toNat ((leftTo g fl i).getD (g.ed i).t.toNat 0 + ((g.ed i).w - fn fl i))).getD (g.ed i).f.toNat 0 + (fn fl i - (g.ed i).w))).getD v 0 = _
    rw [getD_set (by simpa using (by omega : (g.ed i).f.toNat < (leftTo g fl i).length)), getD_set (by omega), getD_set (by omega)]
    unfold fn
    have q1 : (g.ed i).t = (v : Int) ↔ (g.ed i).t.toNat = v := by omega
    have q2 : (g.ed i).f = (v : Int) ↔ (g.ed i).f.toNat = v := by omega
    have q3 : (g.ed i).t.toNat = (g.ed i).f.toNat ↔ (g.ed i).t = (g.ed i).f := by omega
    by_cases a : (g.ed i).t = (v : Int) <;> by_cases b : (g.ed i).f = (v : Int)
    · rw [if_pos (q2.1 b), if_pos (show (g.ed i).t.toNat = (g.ed i).f.toNat by omega), if_pos a, if_pos b, if_pos a, if_pos b, q1.1 a, ih]; omega
    · rw [if_neg (fun x => b (q2.2 x)), if_pos (q1.1 a), if_pos a, if_neg b, if_pos a, if_neg b, q1.1 a, ih]; omega
    · rw [if_pos (q2.1 b), if_neg (show ¬ (g.ed i).t.toNat = (g.ed i).f.toNat by omega), if_neg a, if_pos b, if_neg a, if_pos b, q2.1 b, ih]; omega
    · rw [if_neg (fun x => b (q2.2 x)), if_neg (fun x => a (q1.2 x)), if_neg a, if_neg b, if_neg a, if_neg b, ih]; omega
theorem flowB_diff {g : Gr} (h : g.OK) {fl : List Int} : g.flowB fl = true ↔ fl.length = g.es.length ∧ fl.all flOk = true ∧ ∀ v, v < g.lat.length → g.diffTo fl v g.es.length = g.diffTo g.ws v g.es.length := by
  unfold Gr.flowB
  simp only [Bool.and_eq_true, decide_eq_true_eq]
  rw [all_getD (l := leftTo g fl g.es.length), leftTo_len]
  constructor
  · rintro ⟨h1, h2, h3⟩
    refine ⟨h1, h2, fun v hv => ?_⟩
    have := of_decide_eq_true (h3 v hv)
    rw [left_diff h fl v _ (Nat.le_refl _)] at this
    omega
  · rintro ⟨h1, h2, h3⟩
    refine ⟨h1, h2, fun v hv => decide_eq_true ?_⟩
    rw [left_diff h fl v _ (Nat.le_refl _), h3 v hv]; omega
theorem ws_len (g : Gr) : g.ws.length = g.es.length := by simp [Gr.ws]
theorem ws_bd {g : Gr} (h : g.OK) {j : Nat} (hj : j < g.es.length) : 0 ≤ g.ws.getD j 0 ∧ g.ws.getD j 0 ≤ 1048576 := by
  rw [ws_at hj]
  have := Gr.edge_mem h (e := g.ed j) (Gr.edge h hj).1
  omega
/-- soundpost/soundpostref24.differ -/
theorem spec44 {g : Gr} (hok : g.OK) {l : List Int} (hl : l.length = g.es.length) (hb : ∀ j, j < g.es.length → 0 ≤ l.getD j 0 ∧ l.getD j 0 ≤ 1048576) (v : Int) : FnSpec Try.prog 44 [g.av, .d (intsD l), iv .i64 v] [] (iv .i64 (g.diffTo l v g.es.length)) [] [] := by
  have hn1 := hok.n
  have hn2 := hok.m
  refine fnSpec_of (rs := [.tmp 6]) Try.func44 rfl rfl (Nat.le_of_ble_eq_true rfl) (by simp [St.get]) fun E hk hn => ?_
  apply WPA.seq
  apply WPA.region
  · first | apply Trace.boxD 3 [] (.plain rfl) rfl rfl | apply Trace.box 3 [] (.plain rfl) rfl rfl rfl
    apply Trace.pu [] (.assign (.plain rfl))
    exact .nil _
  · exact keepOK_of hk hn rfl
  apply WPA.seq
  apply WPA.region
  · apply Trace.pu [] (.assign (.plain rfl))
    exact .nil _
  · exact keepOK_of hk hn rfl
  apply WPA.seq
  apply WPA.seq
  apply WPA.region
  · apply Trace.pu [] (.assign (.plain rfl))
    exact .nil _
  · exact keepOK_of hk hn rfl
  apply WPA.block
  refine WPA.loop (σ := Nat) (fun i => [(sl 1, .av (.d (intsD l))), (sl 2, .av (iv .i64 (v))), (sl 3, .av (.loc 3 0)), (sl 7, .av (iv .i64 (g.diffTo l v i))), (sl 8, .av (iv .i64 (i))), (bk 3, .blk (.data g.ds))]) (fun i => i ≤ g.es.length) (fun i => g.es.length - i) 0
    (St.le_cons rfl (St.le_cons rfl (St.le_cons rfl (St.le_cons rfl (St.le_cons rfl (St.le_cons rfl (St.le_nil _))))))) (Nat.zero_le _) fun i hi => ?_
  apply WPA.seq
  apply WPA.seq
  apply WPA.region
  · apply Trace.pu [] (.move (.plain rfl))
    apply Trace.pu [] (.fieldAddr fl25_1 (.plain rfl) rfl)
    first | apply Trace.pu [_] (.loadLoc1D ty23 (.plain rfl) rfl rfl) | apply Trace.pu [_] (.loadLoc1 ty23 (.plain rfl) rfl rfl) | apply Trace.pu [] (.loadRp1 ty23 (.plain rfl) rfl) | apply Trace.pu [_] (.loadCol1 ty23 (.plain rfl) rfl rfl rfl (fun _ => by omega))
    apply Trace.pu [] (.len rfl Try.underlying23 (.plain rfl) rfl)
    apply Trace.pu [] (.cmp (.plain rfl) (.plain rfl) rfl)
    exact .nil _
  · exact keepOK_of hk hn rfl
  refine WPA.cond rfl (fun hc1 => ?_) (fun hc1 => ?_)
  · have hlt : i < g.es.length := by simpa using hc1
    obtain ⟨e, he⟩ : ∃ e, g.es.getD i default = e := ⟨_, rfl⟩
    have hem : e ∈ g.es := by rw [← he]; exact (Gr.edge hok hlt).1
    obtain ⟨he1, he2, he3, he4, he5, he6, he7, he8, he9, he10⟩ := Gr.edge_mem hok hem
    have hed : g.ed i = e := he
    have hbi := hb i hlt
    have hbd := diffTo_bd (g := g) v i fun j hj => hb j (by omega)
    have hds := diffTo_succ g l v i
    rw [hed] at hds
    have hbi2 : 0 ≤ l.getD ((i : Nat) : Int).toNat 0 ∧ l.getD ((i : Nat) : Int).toNat 0 ≤ 1048576 := hbi
    have hds2 : l.getD ((i : Nat) : Int).toNat 0 = l.getD i 0 := rfl
    apply WPA.skip
    apply WPA.seq
    apply WPA.block
    apply WPA.seq
    apply WPA.seq
    apply WPA.region
    · apply Trace.pu [] (.fieldAddr fl25_1 (.plain rfl) rfl)
      first | apply Trace.pu [_] (.loadLoc1D ty23 (.plain rfl) rfl rfl) | apply Trace.pu [_] (.loadLoc1 ty23 (.plain rfl) rfl rfl) | apply Trace.pu [] (.loadRp1 ty23 (.plain rfl) rfl) | apply Trace.pu [_] (.loadCol1 ty23 (.plain rfl) rfl rfl rfl (fun _ => by omega))
      apply Trace.pu [] (.move (.plain rfl))
      apply Trace.pu [] ((Pure.indexRows el23 (.plain rfl) (.plain rfl) (fun _ => ⟨by omega, by omega⟩)).to (y := .rp e.ds) (by show AV.rp (g.es.getD i default).ds = _; rw [he]))
      apply Trace.pu [] (.fieldAddr fl34_1 (.plain rfl) rfl)
      first | apply Trace.pu [_] (.loadLoc1D ty3 (.plain rfl) rfl rfl) | apply Trace.pu [_] (.loadLoc1 ty3 (.plain rfl) rfl rfl) | apply Trace.pu [] (.loadRp1 ty3 (.plain rfl) rfl) | apply Trace.pu [_] (.loadCol1 ty3 (.plain rfl) rfl rfl rfl (fun _ => by omega))
      apply Trace.pu [] (.move (.plain rfl))
      apply Trace.pu [] (.cmp (.plain rfl) (.plain rfl) rfl)
      exact .nil _
    · exact keepOK_of hk hn rfl
    refine WPA.cond rfl (fun hc2 => ?_) (fun hc2 => ?_)
    · rw [if_pos (of_decide_eq_true hc2)] at hds
      apply WPA.region
      · apply Trace.pu [] (.move (.plain rfl))
        apply Trace.pu [] (.move (.plain rfl))
        apply Trace.pu [] (.move (.plain rfl))
        first | apply Trace.pu [] (.indexRows el22 (.plain rfl) (.plain rfl) (fun _ => ⟨by omega, by omega⟩)) | apply Trace.pu [] (.indexOwn el22 (.plain rfl) (.plain rfl) (fun _ => ⟨by omega, by omega⟩)) | apply Trace.pu [] (.indexSl el22 (.plain rfl) (.plain rfl) (fun _ => ⟨by omega, by omega⟩))
        first | apply Trace.pu [_] (.loadLoc1D ty3 (.plain rfl) rfl rfl) | apply Trace.pu [_] (.loadLoc1 ty3 (.plain rfl) rfl rfl) | apply Trace.pu [] (.loadRp1 ty3 (.plain rfl) rfl) | apply Trace.pu [_] (.loadCol1 ty3 (.plain rfl) rfl rfl rfl (fun _ => by omega))
        apply Trace.pu [] (.arith (.plain rfl) (.plain rfl) rfl (fun _ => bd64 (by omega)))
        apply Trace.pu [] (.assign (.plain rfl))
        exact .nil _
      · exact keepOK_of hk hn rfl
      apply WPA.seq
      apply WPA.region
      · apply Trace.pu [] (.fieldAddr fl25_1 (.plain rfl) rfl)
        first | apply Trace.pu [_] (.loadLoc1D ty23 (.plain rfl) rfl rfl) | apply Trace.pu [_] (.loadLoc1 ty23 (.plain rfl) rfl rfl) | apply Trace.pu [] (.loadRp1 ty23 (.plain rfl) rfl) | apply Trace.pu [_] (.loadCol1 ty23 (.plain rfl) rfl rfl rfl (fun _ => by omega))
        apply Trace.pu [] (.move (.plain rfl))
        apply Trace.pu [] ((Pure.indexRows el23 (.plain rfl) (.plain rfl) (fun _ => ⟨by omega, by omega⟩)).to (y := .rp e.ds) (by show AV.rp (g.es.getD i default).ds = _; rw [he]))
        apply Trace.pu [] (.fieldAddr fl34_0 (.plain rfl) rfl)
        first | apply Trace.pu [_] (.loadLoc1D ty3 (.plain rfl) rfl rfl) | apply Trace.pu [_] (.loadLoc1 ty3 (.plain rfl) rfl rfl) | apply Trace.pu [] (.loadRp1 ty3 (.plain rfl) rfl) | apply Trace.pu [_] (.loadCol1 ty3 (.plain rfl) rfl rfl rfl (fun _ => by omega))
        apply Trace.pu [] (.move (.plain rfl))
        apply Trace.pu [] (.cmp (.plain rfl) (.plain rfl) rfl)
        exact .nil _
      · exact keepOK_of hk hn rfl
      refine WPA.cond rfl (fun hc3 => ?_) (fun hc3 => ?_)
      · rw [if_pos (of_decide_eq_true hc3)] at hds
        apply WPA.region
        · apply Trace.pu [] (.move (.plain rfl))
          apply Trace.pu [] (.move (.plain rfl))
          apply Trace.pu [] (.move (.plain rfl))
          first | apply Trace.pu [] (.indexRows el22 (.plain rfl) (.plain rfl) (fun _ => ⟨by omega, by omega⟩)) | apply Trace.pu [] (.indexOwn el22 (.plain rfl) (.plain rfl) (fun _ => ⟨by omega, by omega⟩)) | apply Trace.pu [] (.indexSl el22 (.plain rfl) (.plain rfl) (fun _ => ⟨by omega, by omega⟩))
          first | apply Trace.pu [_] (.loadLoc1D ty3 (.plain rfl) rfl rfl) | apply Trace.pu [_] (.loadLoc1 ty3 (.plain rfl) rfl rfl) | apply Trace.pu [] (.loadRp1 ty3 (.plain rfl) rfl) | apply Trace.pu [_] (.loadCol1 ty3 (.plain rfl) rfl rfl rfl (fun _ => by omega))
          apply Trace.pu [] (.arith (.plain rfl) (.plain rfl) rfl (fun _ => bd64 (by omega)))
          apply Trace.pu [] (.assign (.plain rfl))
          exact .nil _
        · exact keepOK_of hk hn rfl
        apply WPA.region
        · apply Trace.pu [] (.move (.plain rfl))
          apply Trace.pu [] (.arith (.plain rfl) (.plain rfl) rfl (fun _ => bd64 (by omega)))
          apply Trace.pu [] (.assign (.plain rfl))
          exact .nil _
        · exact keepOK_of hk hn rfl
        exact ⟨i + 1, by omega, by omega, St.le_cons rfl (St.le_cons rfl (St.le_cons rfl (St.le_cons (slI (by omega)) (St.le_cons (slI (by omega)) (St.le_cons rfl (St.le_nil _))))))⟩
      · rw [if_neg (of_decide_eq_false hc3)] at hds
        apply WPA.skip
        apply WPA.region
        · apply Trace.pu [] (.move (.plain rfl))
          apply Trace.pu [] (.arith (.plain rfl) (.plain rfl) rfl (fun _ => bd64 (by omega)))
          apply Trace.pu [] (.assign (.plain rfl))
          exact .nil _
        · exact keepOK_of hk hn rfl
        exact ⟨i + 1, by omega, by omega, St.le_cons rfl (St.le_cons rfl (St.le_cons rfl (St.le_cons (slI (by omega)) (St.le_cons (slI (by omega)) (St.le_cons rfl (St.le_nil _))))))⟩
    · rw [if_neg (of_decide_eq_false hc2)] at hds
      apply WPA.skip
      apply WPA.seq
      apply WPA.region
      · apply Trace.pu [] (.fieldAddr fl25_1 (.plain rfl) rfl)
        first | apply Trace.pu [_] (.loadLoc1D ty23 (.plain rfl) rfl rfl) | apply Trace.pu [_] (.loadLoc1 ty23 (.plain rfl) rfl rfl) | apply Trace.pu [] (.loadRp1 ty23 (.plain rfl) rfl) | apply Trace.pu [_] (.loadCol1 ty23 (.plain rfl) rfl rfl rfl (fun _ => by omega))
        apply Trace.pu [] (.move (.plain rfl))
        apply Trace.pu [] ((Pure.indexRows el23 (.plain rfl) (.plain rfl) (fun _ => ⟨by omega, by omega⟩)).to (y := .rp e.ds) (by show AV.rp (g.es.getD i default).ds = _; rw [he]))
        apply Trace.pu [] (.fieldAddr fl34_0 (.plain rfl) rfl)
        first | apply Trace.pu [_] (.loadLoc1D ty3 (.plain rfl) rfl rfl) | apply Trace.pu [_] (.loadLoc1 ty3 (.plain rfl) rfl rfl) | apply Trace.pu [] (.loadRp1 ty3 (.plain rfl) rfl) | apply Trace.pu [_] (.loadCol1 ty3 (.plain rfl) rfl rfl rfl (fun _ => by omega))
        apply Trace.pu [] (.move (.plain rfl))
        apply Trace.pu [] (.cmp (.plain rfl) (.plain rfl) rfl)
        exact .nil _
      · exact keepOK_of hk hn rfl
      refine WPA.cond rfl (fun hc4 => ?_) (fun hc4 => ?_)
      · rw [if_pos (of_decide_eq_true hc4)] at hds
        apply WPA.region
        · apply Trace.pu [] (.move (.plain rfl))
          apply Trace.pu [] (.move (.plain rfl))
          apply Trace.pu [] (.move (.plain rfl))
          first | apply Trace.pu [] (.indexRows el22 (.plain rfl) (.plain rfl) (fun _ => ⟨by omega, by omega⟩)) | apply Trace.pu [] (.indexOwn el22 (.plain rfl) (.plain rfl) (fun _ => ⟨by omega, by omega⟩)) | apply Trace.pu [] (.indexSl el22 (.plain rfl) (.plain rfl) (fun _ => ⟨by omega, by omega⟩))
          first | apply Trace.pu [_] (.loadLoc1D ty3 (.plain rfl) rfl rfl) | apply Trace.pu [_] (.loadLoc1 ty3 (.plain rfl) rfl rfl) | apply Trace.pu [] (.loadRp1 ty3 (.plain rfl) rfl) | apply Trace.pu [_] (.loadCol1 ty3 (.plain rfl) rfl rfl rfl (fun _ => by omega))
          apply Trace.pu [] (.arith (.plain rfl) (.plain rfl) rfl (fun _ => bd64 (by omega)))
          apply Trace.pu [] (.assign (.plain rfl))
          exact .nil _
        · exact keepOK_of hk hn rfl
        apply WPA.region
        · apply Trace.pu [] (.move (.plain rfl))
          apply Trace.pu [] (.arith (.plain rfl) (.plain rfl) rfl (fun _ => bd64 (by omega)))
          apply Trace.pu [] (.assign (.plain rfl))
          exact .nil _
        · exact keepOK_of hk hn rfl
        exact ⟨i + 1, by omega, by omega, St.le_cons rfl (St.le_cons rfl (St.le_cons rfl (St.le_cons (slI (by omega)) (St.le_cons (slI (by omega)) (St.le_cons rfl (St.le_nil _))))))⟩
      · rw [if_neg (of_decide_eq_false hc4)] at hds
        apply WPA.skip
        apply WPA.region
        · apply Trace.pu [] (.move (.plain rfl))
          apply Trace.pu [] (.arith (.plain rfl) (.plain rfl) rfl (fun _ => bd64 (by omega)))
          apply Trace.pu [] (.assign (.plain rfl))
          exact .nil _
        · exact keepOK_of hk hn rfl
        exact ⟨i + 1, by omega, by omega, St.le_cons rfl (St.le_cons rfl (St.le_cons rfl (St.le_cons (slI (by omega)) (St.le_cons (slI (by omega)) (St.le_cons rfl (St.le_nil _))))))⟩
  · apply WPA.exit
    apply WPA.seq
    apply WPA.region
    · apply Trace.pu [] (.move (.plain rfl))
      apply Trace.pu [] (.assign (.plain rfl))
      exact .nil _
    · exact keepOK_of hk hn rfl
    apply WPA.ret
    refine ⟨.inr rfl, ⟨_, (.cons (.tmp rfl) .nil), ?_⟩, by simp [St.get]⟩
    have him : i = g.es.length := by
      have : ¬ ((i : Int) < g.es.length) := by simpa using hc1
      omega
    subst him
    rfl

/-- soundpost/soundpostref24.Weights -/
theorem spec24 {g : Gr} (hok : g.OK) : FnSpec Try.prog 24 [g.av] [] (.d (intsD g.ws)) [] [] := by
  have hn1 := hok.n
  have hn2 := hok.m
  refine fnSpec_of (rs := [.tmp 2]) Try.func24 rfl rfl (Nat.le_of_ble_eq_true rfl) (by simp [St.get]) fun E hk hn => ?_
  apply WPA.seq
  apply WPA.region
  · first | apply Trace.boxD 1 [] (.plain rfl) rfl rfl | apply Trace.box 1 [] (.plain rfl) rfl rfl rfl
    apply Trace.pu [] (.assign (.plain rfl))
    exact .nil _
  · exact keepOK_of hk hn rfl
  apply WPA.seq
  apply WPA.region
  · apply Trace.pu [] (.assign (.plain rfl))
    exact .nil _
  · exact keepOK_of hk hn rfl
  apply WPA.seq
  apply WPA.seq
  refine WPA.ghost (Ghost.ownNil' (t := 3) (l := 90) (cs := [.ints .i64 []]) (n := 1) rfl rfl (by rw [hk]; decide) (by rw [hn]; exact Nat.le_of_ble_eq_true rfl) rfl (by simp [Col.len])) ?_
  apply WPA.region
  · apply Trace.pu [] (.assign (.plain rfl))
    exact .nil _
  · exact keepOK_of hk hn rfl
  apply WPA.block
  refine WPA.loop (σ := Nat) (fun i => [(sl 1, .av (.loc 1 0)), (sl 3, .av (.own 90 i)), (sl 4, .av (iv .i64 (i))), (bk 1, .blk (.data g.ds)), (bk 90, .blk (.app 1 i [.ints .i64 (g.wsP i)]))]) (fun i => i ≤ g.es.length) (fun i => g.es.length - i) 0
    (St.le_cons rfl (St.le_cons rfl (St.le_cons rfl (St.le_cons rfl (St.le_cons rfl (St.le_nil _)))))) (Nat.zero_le _) fun i hi => ?_
  apply WPA.seq
  apply WPA.seq
  apply WPA.region
  · apply Trace.pu [] (.move (.plain rfl))
    apply Trace.pu [] (.fieldAddr fl25_1 (.plain rfl) rfl)
    first | apply Trace.pu [_] (.loadLoc1D ty23 (.plain rfl) rfl rfl) | apply Trace.pu [_] (.loadLoc1 ty23 (.plain rfl) rfl rfl) | apply Trace.pu [] (.loadRp1 ty23 (.plain rfl) rfl) | apply Trace.pu [_] (.loadCol1 ty23 (.plain rfl) rfl rfl rfl (fun _ => by omega))
    apply Trace.pu [] (.len rfl Try.underlying23 (.plain rfl) rfl)
    apply Trace.pu [] (.cmp (.plain rfl) (.plain rfl) rfl)
    exact .nil _
  · exact keepOK_of hk hn rfl
  refine WPA.cond rfl (fun hc1 => ?_) (fun hc1 => ?_)
  · have hlt : i < g.es.length := by simpa using hc1
    obtain ⟨e, he⟩ : ∃ e, g.es.getD i default = e := ⟨_, rfl⟩
    have hem : e ∈ g.es := by rw [← he]; exact (Gr.edge hok hlt).1
    obtain ⟨he1, he2, he3, he4, he5, he6, he7, he8, he9, he10⟩ := Gr.edge_mem hok hem
    have hed : g.ed i = e := he
    have hws := wsP_succ g i
    rw [hed] at hws
    apply WPA.skip
    apply WPA.seq
    apply WPA.block
    apply WPA.region
    · apply Trace.pu [] (.move (.plain rfl))
      apply Trace.pu [] (.fieldAddr fl25_1 (.plain rfl) rfl)
      first | apply Trace.pu [_] (.loadLoc1D ty23 (.plain rfl) rfl rfl) | apply Trace.pu [_] (.loadLoc1 ty23 (.plain rfl) rfl rfl) | apply Trace.pu [] (.loadRp1 ty23 (.plain rfl) rfl) | apply Trace.pu [_] (.loadCol1 ty23 (.plain rfl) rfl rfl rfl (fun _ => by omega))
      apply Trace.pu [] (.move (.plain rfl))
      apply Trace.pu [] ((Pure.indexRows el23 (.plain rfl) (.plain rfl) (fun _ => ⟨by omega, by omega⟩)).to (y := .rp e.ds) (by show AV.rp (g.es.getD i default).ds = _; rw [he]))
      apply Trace.pu [] (.fieldAddr fl34_2 (.plain rfl) rfl)
      first | apply Trace.pu [_] (.loadLoc1D ty3 (.plain rfl) rfl rfl) | apply Trace.pu [_] (.loadLoc1 ty3 (.plain rfl) rfl rfl) | apply Trace.pu [] (.loadRp1 ty3 (.plain rfl) rfl) | apply Trace.pu [_] (.loadCol1 ty3 (.plain rfl) rfl rfl rfl (fun _ => by omega))
      apply Trace.buildSlice 19 [] so22 zo3 rfl (by decide) (by decide) (.cons (.plain rfl) rfl rfl (Nat.le_of_ble_eq_true rfl) (.nil _ _)) rfl rfl rfl
      apply Trace.append 20 [bk 90, bk 19, sl 12, sl 19, sl 3] ap22 kd22 (by decide) (.own (.plain rfl) rfl) (.own (.plain rfl) rfl) (Col.ones rfl) (labs_ok rfl) (by omega) (by omega) rfl rfl
      apply Trace.pu [] (.assign (.plain rfl))
      exact .nil _
    · exact keepOK_of hk hn rfl
    refine WPA.ghost (Ghost.swap 90 20 (by rw [hk]; decide) (by rw [hk]; decide) rfl) ?_
    apply WPA.region
    · apply Trace.pu [] (.move (.plain rfl))
      apply Trace.pu [] (.arith (.plain rfl) (.plain rfl) rfl (fun _ => bd64 (by omega)))
      apply Trace.pu [] (.assign (.plain rfl))
      exact .nil _
    · exact keepOK_of hk hn rfl
    exact ⟨i + 1, by omega, by omega, St.le_cons rfl (St.le_cons rfl (St.le_cons (slI (by omega)) (St.le_cons rfl (St.le_cons (app_eq64 hws.symm) (St.le_nil _)))))⟩
  · have him : i = g.es.length := by
      have : ¬ ((i : Int) < g.es.length) := by simpa using hc1
      omega
    subst him
    refine WPA.ghost (Ghost.freezeAs (t := 3) (l := 90) (g := fun k => [Col.at (.ints .i64 (g.wsP g.es.length)) k]) rfl rfl (fun k hk => rfl)) ?_
    refine WPA.weaken (T := [(sl 3, .av (.d (intsD g.ws)))]) ?_ (St.le_cons (d_eq (by rw [← wsP_end g, intsD, show (g.wsP g.es.length).length = g.es.length by simp [Gr.wsP]]; rfl)) (St.le_nil _))
    apply WPA.exit
    apply WPA.seq
    apply WPA.region
    · apply Trace.pu [] (.move (.plain rfl))
      apply Trace.pu [] (.assign (.plain rfl))
      exact .nil _
    · exact keepOK_of hk hn rfl
    apply WPA.ret
    refine ⟨.inr rfl, ⟨_, (.cons (.tmp rfl) .nil), ?_⟩, by simp [St.get]⟩
    rfl

/-- soundpost/soundpostref24.Flow -/
theorem spec25 {g : Gr} (hok : g.OK) (fl : List Int) (hfl : fl.length ≤ 4611686018427387904) : FnSpec Try.prog 25 [g.av, .d (intsD fl)] [] (bv (g.flowB fl)) [] [] := by
  have hn1 := hok.n
  have hn2 := hok.m
  refine fnSpec_of (rs := [.tmp 4]) Try.func25 rfl rfl (Nat.le_of_ble_eq_true rfl) (by simp [St.get]) fun E hk hn => ?_
  apply WPA.seq
  apply WPA.region
  · first | apply Trace.boxD 2 [] (.plain rfl) rfl rfl | apply Trace.box 2 [] (.plain rfl) rfl rfl rfl
    apply Trace.pu [] (.assign (.plain rfl))
    exact .nil _
  · exact keepOK_of hk hn rfl
  apply WPA.seq
  apply WPA.seq
  apply WPA.region
  · apply Trace.pu [] (.move (.plain rfl))
    apply Trace.pu [] (.len rfl Try.underlying22 (.plain rfl) rfl)
    apply Trace.pu [] (.fieldAddr fl25_1 (.plain rfl) rfl)
    first | apply Trace.pu [_] (.loadLoc1D ty23 (.plain rfl) rfl rfl) | apply Trace.pu [_] (.loadLoc1 ty23 (.plain rfl) rfl rfl) | apply Trace.pu [] (.loadRp1 ty23 (.plain rfl) rfl) | apply Trace.pu [_] (.loadCol1 ty23 (.plain rfl) rfl rfl rfl (fun _ => by omega))
    apply Trace.pu [] (.len rfl Try.underlying23 (.plain rfl) rfl)
    apply Trace.pu [] (.cmp (.plain rfl) (.plain rfl) rfl)
    exact .nil _
  · exact keepOK_of hk hn rfl
  refine WPA.cond rfl (fun hc1 => ?_) (fun hc1 => ?_)
  · have hl : ¬ (fl.length = g.es.length) := by
      have : ((fl.length : Int) ≠ g.es.length) := by simpa using hc1
      omega
    have hM : g.flowB fl = false := by unfold Gr.flowB; rw [decide_eq_false hl]; rfl
    apply WPA.seq
    apply WPA.region
    · apply Trace.pu [] (.assign (.plain rfl))
      exact .nil _
    · exact keepOK_of hk hn rfl
    apply WPA.ret
    refine ⟨.inr rfl, ⟨_, (.cons (.tmp rfl) .nil), ?_⟩, by simp [St.get]⟩
    rw [hM]; rfl
  · have hl : fl.length = g.es.length := by
      have : ¬ ((fl.length : Int) ≠ g.es.length) := by simpa using hc1
      omega
    apply WPA.skip
    apply WPA.seq
    apply WPA.seq
    apply WPA.region
    · apply Trace.pu [] (.assign (.plain rfl))
      exact .nil _
    · exact keepOK_of hk hn rfl
    apply WPA.block
    refine WPA.loop (σ := Nat) (fun i => [(sl 1, .av (.d (intsD fl))), (sl 2, .av (.loc 2 0)), (sl 5, .av (iv .i64 (i))), (bk 2, .blk (.data g.ds))]) (fun i => i ≤ fl.length ∧ ∀ j, j < i → flOk (fl.getD j 0) = true) (fun i => fl.length - i) 0
      (St.le_cons rfl (St.le_cons rfl (St.le_cons rfl (St.le_cons rfl (St.le_nil _))))) ⟨Nat.zero_le _, fun j h => by omega⟩ fun i hi => ?_
    apply WPA.seq
    apply WPA.seq
    apply WPA.region
    · apply Trace.pu [] (.move (.plain rfl))
      apply Trace.pu [] (.move (.plain rfl))
      apply Trace.pu [] (.len rfl Try.underlying22 (.plain rfl) rfl)
      apply Trace.pu [] (.cmp (.plain rfl) (.plain rfl) rfl)
      exact .nil _
    · exact keepOK_of hk hn rfl
    refine WPA.cond rfl (fun hc2 => ?_) (fun hc2 => ?_)
    · have hlt : i < fl.length := by simpa using hc2
      apply WPA.skip
      apply WPA.seq
      apply WPA.block
      apply WPA.seq
      apply WPA.region
      · apply Trace.pu [] (.move (.plain rfl))
        apply Trace.pu [] (.move (.plain rfl))
        first | apply Trace.pu [] (.indexRows el22 (.plain rfl) (.plain rfl) (fun _ => ⟨by omega, by omega⟩)) | apply Trace.pu [] (.indexOwn el22 (.plain rfl) (.plain rfl) (fun _ => ⟨by omega, by omega⟩)) | apply Trace.pu [] (.indexSl el22 (.plain rfl) (.plain rfl) (fun _ => ⟨by omega, by omega⟩))
        first | apply Trace.pu [_] (.loadLoc1D ty3 (.plain rfl) rfl rfl) | apply Trace.pu [_] (.loadLoc1 ty3 (.plain rfl) rfl rfl) | apply Trace.pu [] (.loadRp1 ty3 (.plain rfl) rfl) | apply Trace.pu [_] (.loadCol1 ty3 (.plain rfl) rfl rfl rfl (fun _ => by omega))
        apply Trace.pu [] (.cmp (.plain rfl) (.plain rfl) rfl)
        apply Trace.pu [] (.move (.plain rfl))
        apply Trace.pg [] rfl (.move (.plain rfl))
        apply Trace.pg [] rfl (.move (.plain rfl))
        first | apply Trace.pg [] rfl (.indexRows el22 (.gd rfl (fun h => h)) (.gd rfl (fun h => h)) (fun _ => ⟨by omega, by omega⟩)) | apply Trace.pg [] rfl (.indexOwn el22 (.gd rfl (fun h => h)) (.gd rfl (fun h => h)) (fun _ => ⟨by omega, by omega⟩)) | apply Trace.pg [] rfl (.indexSl el22 (.gd rfl (fun h => h)) (.gd rfl (fun h => h)) (fun _ => ⟨by omega, by omega⟩))
        first | apply Trace.pg [_] rfl (.loadLoc1D ty3 (.gd rfl (fun h => h)) rfl rfl) | apply Trace.pg [_] rfl (.loadLoc1 ty3 (.gd rfl (fun h => h)) rfl rfl) | apply Trace.pg [] rfl (.loadRp1 ty3 (.gd rfl (fun h => h)) rfl) | apply Trace.pg [_] rfl (.loadCol1 ty3 (.gd rfl (fun h => h)) rfl rfl rfl (fun _ => by omega))
        apply Trace.pg [] rfl (.cmp (.gd rfl (fun h => h)) (.plain rfl) rfl)
        apply Trace.pu [] (.pick (.plain rfl) (.plain rfl) (.gd rfl (by simp)))
        exact .nil _
      · exact keepOK_of hk hn rfl
      refine WPA.cond rfl (fun hc3 => ?_) (fun hc3 => ?_)
      · have hx : flOk (fl.getD i 0) = false := by
          have h9 : (bif decide (fl.getD i 0 < 0) then true else decide (1048576 < fl.getD i 0)) = true := hc3
          rw [bif_or, Bool.or_eq_true, decide_eq_true_eq, decide_eq_true_eq] at h9
          exact decide_eq_false (by omega)
        have hM : g.flowB fl = false := by
          unfold Gr.flowB
          rw [show fl.all flOk = false from by
            cases h8 : fl.all flOk with
            | false => rfl
            | true => rw [all_getD.1 h8 i (by omega)] at hx; cases hx]
          simp
        apply WPA.seq
        apply WPA.region
        · apply Trace.pu [] (.assign (.plain rfl))
          exact .nil _
        · exact keepOK_of hk hn rfl
        apply WPA.ret
        refine ⟨.inr rfl, ⟨_, (.cons (.tmp rfl) .nil), ?_⟩, by simp [St.get]⟩
        rw [hM]; rfl
      · have hx : flOk (fl.getD i 0) = true := by
          have h9 : (bif decide (fl.getD i 0 < 0) then true else decide (1048576 < fl.getD i 0)) = false := hc3
          rw [bif_or, Bool.or_eq_false_iff, decide_eq_false_iff_not, decide_eq_false_iff_not] at h9
          exact decide_eq_true (by omega)
        apply WPA.skip
        apply WPA.region
        · apply Trace.pu [] (.move (.plain rfl))
          apply Trace.pu [] (.arith (.plain rfl) (.plain rfl) rfl (fun _ => bd64 (by omega)))
          apply Trace.pu [] (.assign (.plain rfl))
          exact .nil _
        · exact keepOK_of hk hn rfl
        exact ⟨i + 1, ⟨by omega, fun j h => by
          by_cases hj : j = i
          · rw [hj]; exact hx
          · exact hi.2 j (by omega)⟩, by omega, St.le_cons rfl (St.le_cons rfl (St.le_cons (slI (by omega)) (St.le_cons rfl (St.le_nil _))))⟩
    · have hall : fl.all flOk = true := all_getD.2 fun j hj => hi.2 j (by
        have : ¬ ((i : Int) < fl.length) := by simpa using hc2
        omega)
      have hbf : ∀ j, j < g.es.length → 0 ≤ fl.getD j 0 ∧ fl.getD j 0 ≤ 1048576 := fun j hj => flOk_iff.1 (all_getD.1 hall j (by omega))
      apply WPA.exit
      apply WPA.seq
      apply WPA.region
      · first | apply Trace.pu [_] (.loadAllD ty25 (.plain rfl) rfl (by simp)) | apply Trace.pu [_] (.loadLocD ty25 (.plain rfl) rfl (fun _ => by simp)) | apply Trace.pu [_] (.loadLoc ty25 (.plain rfl) rfl (fun _ => Nat.le_of_ble_eq_true rfl)) | apply Trace.pu [] (.loadRp ty25 (.plain rfl) (fun _ => by decide)) | apply Trace.pu [] (.loadRp ty25 (.plain rfl) (fun _ => Nat.le_of_ble_eq_true rfl)) | apply Trace.pu [_] (.loadCol ty25 (.plain rfl) rfl rfl (fun _ => by decide) (fun _ => by omega)) | apply Trace.pu [_] (.loadArr ty25 (.plain rfl) rfl)
        apply Trace.cu (callArgs0 (.cons (.plain rfl) .nil)) (spec24 hok) en24
        apply Trace.pu [] (.assign (.plain rfl))
        exact .nil _
      · exact keepOK_of hk hn rfl
      apply WPA.seq
      apply WPA.seq
      apply WPA.region
      · apply Trace.pu [] (.assign (.plain rfl))
        exact .nil _
      · exact keepOK_of hk hn rfl
      apply WPA.block
      refine WPA.loop (σ := Nat) (fun v => [(sl 1, .av (.d (intsD fl))), (sl 2, .av (.loc 2 0)), (sl 6, .av (.d (intsD g.ws))), (sl 7, .av (iv .i64 (v))), (bk 2, .blk (.data g.ds))]) (fun v => v ≤ g.lat.length ∧ ∀ j, j < v → g.diffTo fl j g.es.length = g.diffTo g.ws j g.es.length) (fun v => g.lat.length - v) 0
        (St.le_cons rfl (St.le_cons rfl (St.le_cons rfl (St.le_cons rfl (St.le_cons rfl (St.le_nil _)))))) ⟨Nat.zero_le _, fun j h => by omega⟩ fun v hv => ?_
      apply WPA.seq
      apply WPA.seq
      apply WPA.region
      · apply Trace.pu [] (.move (.plain rfl))
        apply Trace.pu [] (.fieldAddr fl25_0 (.plain rfl) rfl)
        first | apply Trace.pu [_] (.loadLoc1D ty22 (.plain rfl) rfl rfl) | apply Trace.pu [_] (.loadLoc1 ty22 (.plain rfl) rfl rfl) | apply Trace.pu [] (.loadRp1 ty22 (.plain rfl) rfl) | apply Trace.pu [_] (.loadCol1 ty22 (.plain rfl) rfl rfl rfl (fun _ => by omega))
        apply Trace.pu [] (.len rfl Try.underlying22 (.plain rfl) rfl)
        apply Trace.pu [] (.cmp (.plain rfl) (.plain rfl) rfl)
        exact .nil _
      · exact keepOK_of hk hn rfl
      refine WPA.cond rfl (fun hc4 => ?_) (fun hc4 => ?_)
      · have hlv : v < g.lat.length := by simpa using hc4
        apply WPA.skip
        apply WPA.seq
        apply WPA.block
        apply WPA.seq
        apply WPA.draw mixed
        · first | apply Trace.pu [_] (.loadAllD ty25 (.plain rfl) rfl (by simp)) | apply Trace.pu [_] (.loadLocD ty25 (.plain rfl) rfl (fun _ => by simp)) | apply Trace.pu [_] (.loadLoc ty25 (.plain rfl) rfl (fun _ => Nat.le_of_ble_eq_true rfl)) | apply Trace.pu [] (.loadRp ty25 (.plain rfl) (fun _ => by decide)) | apply Trace.pu [] (.loadRp ty25 (.plain rfl) (fun _ => Nat.le_of_ble_eq_true rfl)) | apply Trace.pu [_] (.loadCol ty25 (.plain rfl) rfl rfl (fun _ => by decide) (fun _ => by omega)) | apply Trace.pu [_] (.loadArr ty25 (.plain rfl) rfl)
          apply Trace.pu [] (.move (.plain rfl))
          apply Trace.pu [] (.move (.plain rfl))
          apply Trace.cu (callArgs0 (.cons (.plain rfl) (.cons (.plain rfl) (.cons (.plain rfl) .nil)))) (spec44 hok hl hbf (v : Nat)) en44
          first | apply Trace.pu [_] (.loadAllD ty25 (.plain rfl) rfl (by simp)) | apply Trace.pu [_] (.loadLocD ty25 (.plain rfl) rfl (fun _ => by simp)) | apply Trace.pu [_] (.loadLoc ty25 (.plain rfl) rfl (fun _ => Nat.le_of_ble_eq_true rfl)) | apply Trace.pu [] (.loadRp ty25 (.plain rfl) (fun _ => by decide)) | apply Trace.pu [] (.loadRp ty25 (.plain rfl) (fun _ => Nat.le_of_ble_eq_true rfl)) | apply Trace.pu [_] (.loadCol ty25 (.plain rfl) rfl rfl (fun _ => by decide) (fun _ => by omega)) | apply Trace.pu [_] (.loadArr ty25 (.plain rfl) rfl)
          apply Trace.pu [] (.move (.plain rfl))
          apply Trace.pu [] (.move (.plain rfl))
          apply Trace.cu (callArgs0 (.cons (.plain rfl) (.cons (.plain rfl) (.cons (.plain rfl) .nil)))) (spec44 hok (ws_len g) (fun j hj => ws_bd hok hj) (v : Nat)) en44
          apply Trace.pu [] (.cmp (.plain rfl) (.plain rfl) rfl)
          exact .nil _
        · rfl
        · exact keepOK_of hk hn rfl
        refine WPA.cond rfl (fun hc5 => ?_) (fun hc5 => ?_)
        · have hne : ¬ (g.diffTo fl v g.es.length = g.diffTo g.ws v g.es.length) := by simpa using hc5
          have hM : g.flowB fl = false := by
            cases h8 : g.flowB fl with
            | false => rfl
            | true => exact absurd (((flowB_diff hok).1 h8).2.2 v hlv) hne
          apply WPA.seq
          apply WPA.region
          · apply Trace.pu [] (.assign (.plain rfl))
            exact .nil _
          · exact keepOK_of hk hn rfl
          apply WPA.ret
          refine ⟨.inr rfl, ⟨_, (.cons (.tmp rfl) .nil), ?_⟩, by simp [St.get]⟩
          rw [hM]; rfl
        · have heq : g.diffTo fl v g.es.length = g.diffTo g.ws v g.es.length := by simpa using hc5
          apply WPA.skip
          apply WPA.region
          · apply Trace.pu [] (.move (.plain rfl))
            apply Trace.pu [] (.arith (.plain rfl) (.plain rfl) rfl (fun _ => bd64 (by omega)))
            apply Trace.pu [] (.assign (.plain rfl))
            exact .nil _
          · exact keepOK_of hk hn rfl
          exact ⟨v + 1, ⟨by omega, fun j h => by
            by_cases hj : j = v
            · rw [hj]; exact heq
            · exact hv.2 j (by omega)⟩, by omega, St.le_cons rfl (St.le_cons rfl (St.le_cons rfl (St.le_cons (slI (by omega)) (St.le_cons rfl (St.le_nil _)))))⟩
      · apply WPA.exit
        apply WPA.seq
        apply WPA.region
        · apply Trace.pu [] (.assign (.plain rfl))
          exact .nil _
        · exact keepOK_of hk hn rfl
        apply WPA.ret
        refine ⟨.inr rfl, ⟨_, (.cons (.tmp rfl) .nil), ?_⟩, by simp [St.get]⟩
        have hM : g.flowB fl = true := (flowB_diff hok).2 ⟨hl, hall, fun j hj => hv.2 j (by
          have : ¬ ((v : Int) < g.lat.length) := by simpa using hc4
          omega)⟩
        rw [hM]; rfl

/-- soundpost/soundpostref24.bound -/
theorem spec41 {g : Gr} (hok : g.OK) {fl : List Int} (hl : fl.length = g.es.length) (hb : ∀ i, i < g.es.length → 0 ≤ fn fl i ∧ fn fl i ≤ 1048576) : FnSpec Try.prog 41 [g.av, .d (intsD fl)] [] (iv .i64 (g.bnd fl g.es.length)) [] [] := by
  have hn1 := hok.n
  have hn2 := hok.m
  refine fnSpec_of (rs := [.tmp 4]) Try.func41 rfl rfl (Nat.le_of_ble_eq_true rfl) (by simp [St.get]) fun E hk hn => ?_
  apply WPA.seq
  apply WPA.region
  · first | apply Trace.boxD 2 [] (.plain rfl) rfl rfl | apply Trace.box 2 [] (.plain rfl) rfl rfl rfl
    apply Trace.pu [] (.assign (.plain rfl))
    exact .nil _
  · exact keepOK_of hk hn rfl
  apply WPA.seq
  apply WPA.region
  · apply Trace.pu [] (.assign (.plain rfl))
    exact .nil _
  · exact keepOK_of hk hn rfl
  apply WPA.seq
  apply WPA.seq
  apply WPA.region
  · apply Trace.pu [] (.assign (.plain rfl))
    exact .nil _
  · exact keepOK_of hk hn rfl
  apply WPA.block
  refine WPA.loop (σ := Nat) (fun i => [(sl 1, .av (.d (intsD fl))), (sl 2, .av (.loc 2 0)), (sl 5, .av (iv .i64 (g.bnd fl i))), (sl 6, .av (iv .i64 (i))), (bk 2, .blk (.data g.ds))]) (fun i => i ≤ g.es.length) (fun i => g.es.length - i) 0
    (St.le_cons rfl (St.le_cons rfl (St.le_cons rfl (St.le_cons rfl (St.le_cons rfl (St.le_nil _)))))) (Nat.zero_le _) fun i hi => ?_
  apply WPA.seq
  apply WPA.seq
  apply WPA.region
  · apply Trace.pu [] (.move (.plain rfl))
    apply Trace.pu [] (.move (.plain rfl))
    apply Trace.pu [] (.len rfl Try.underlying22 (.plain rfl) rfl)
    apply Trace.pu [] (.cmp (.plain rfl) (.plain rfl) rfl)
    exact .nil _
  · exact keepOK_of hk hn rfl
  refine WPA.cond rfl (fun hc1 => ?_) (fun hc1 => ?_)
  · have hlt : i < g.es.length := by
      have : ((i : Int) < fl.length) := by simpa using hc1
      omega
    obtain ⟨e, he⟩ : ∃ e, g.es.getD i default = e := ⟨_, rfl⟩
    have hem : e ∈ g.es := by rw [← he]; exact (Gr.edge hok hlt).1
    obtain ⟨he1, he2, he3, he4, he5, he6, he7, he8, he9, he10⟩ := Gr.edge_mem hok hem
    have hed : g.ed i = e := he
    have hbi := hb i hlt
    have hbi2 : 0 ≤ fl.getD ((i : Nat) : Int).toNat 0 ∧ fl.getD ((i : Nat) : Int).toNat 0 ≤ 1048576 := hbi
    have hbb := bnd_bd hok hb i hi
    have hbb2 := bnd_bd hok hb (i + 1) hlt
    have hbt := term_bd hok hb hlt
    rw [bnd_succ, hed] at hbb2
    rw [hed] at hbt
    have hbt2 : -1103806595072 ≤ (e.w - fl.getD ((i : Nat) : Int).toNat 0) * (e.d - g.lat.getD e.f.toNat 0) ∧ (e.w - fl.getD ((i : Nat) : Int).toNat 0) * (e.d - g.lat.getD e.f.toNat 0) ≤ 1103806595072 := hbt
    have hbs := bnd_succ g fl i
    rw [hed] at hbs
    apply WPA.skip
    apply WPA.seq
    apply WPA.block
    apply WPA.seq
    apply WPA.region
    · apply Trace.pu [] (.fieldAddr fl25_1 (.plain rfl) rfl)
      first | apply Trace.pu [_] (.loadLoc1D ty23 (.plain rfl) rfl rfl) | apply Trace.pu [_] (.loadLoc1 ty23 (.plain rfl) rfl rfl) | apply Trace.pu [] (.loadRp1 ty23 (.plain rfl) rfl) | apply Trace.pu [_] (.loadCol1 ty23 (.plain rfl) rfl rfl rfl (fun _ => by omega))
      apply Trace.pu [] (.move (.plain rfl))
      apply Trace.pu [] ((Pure.indexRows el23 (.plain rfl) (.plain rfl) (fun _ => ⟨by omega, by omega⟩)).to (y := .rp e.ds) (by show AV.rp (g.es.getD i default).ds = _; rw [he]))
      first | apply Trace.pu [_] (.loadAllD ty34 (.plain rfl) rfl (by simp)) | apply Trace.pu [_] (.loadLocD ty34 (.plain rfl) rfl (fun _ => by simp)) | apply Trace.pu [_] (.loadLoc ty34 (.plain rfl) rfl (fun _ => Nat.le_of_ble_eq_true rfl)) | apply Trace.pu [] (.loadRp ty34 (.plain rfl) (fun _ => by decide)) | apply Trace.pu [] (.loadRp ty34 (.plain rfl) (fun _ => Nat.le_of_ble_eq_true rfl)) | apply Trace.pu [_] (.loadCol ty34 (.plain rfl) rfl rfl (fun _ => by decide) (fun _ => by omega)) | apply Trace.pu [_] (.loadArr ty34 (.plain rfl) rfl)
      apply Trace.alloc 7 [] (.data _) zo34 (cellsAs_data _) rfl
      first | apply Trace.storeD ty34 (.plain rfl) (.plain rfl) rfl rfl (by simp) (by simp [AV.oneB, single]) (by simp) (spliceL_all (by simp)) | apply Trace.storeD ty34 (.plain rfl) (.plain rfl) rfl rfl (by simp) (by simp [AV.oneB, single]) (by simp) rfl | apply Trace.storeDA ty34 (.plain rfl) (.plain rfl) rfl rfl (by simp) (by simp [AV.oneB, single]) (by simp) rfl | apply Trace.storeLoc ty34 (.plain rfl) (.plain rfl) rfl rfl (by simp) (by simp [AV.oneB, single]) (by simp) rfl | apply Trace.storeRow ty34 (.plain rfl) (.plain rfl) rfl rfl rfl rfl (by decide) (by simp [AV.oneB, single]) rfl (by omega)
      exact .nil _
    · exact keepOK_of hk hn rfl
    apply WPA.draw mixed
    · apply Trace.pu [] (.move (.plain rfl))
      apply Trace.pu [] (.fieldAddr fl34_2 (.plain rfl) rfl)
      first | apply Trace.pu [_] (.loadLoc1D ty3 (.plain rfl) rfl rfl) | apply Trace.pu [_] (.loadLoc1 ty3 (.plain rfl) rfl rfl) | apply Trace.pu [] (.loadRp1 ty3 (.plain rfl) rfl) | apply Trace.pu [_] (.loadCol1 ty3 (.plain rfl) rfl rfl rfl (fun _ => by omega))
      apply Trace.pu [] (.move (.plain rfl))
      apply Trace.pu [] (.move (.plain rfl))
      first | apply Trace.pu [] (.indexRows el22 (.plain rfl) (.plain rfl) (fun _ => ⟨by omega, by omega⟩)) | apply Trace.pu [] (.indexOwn el22 (.plain rfl) (.plain rfl) (fun _ => ⟨by omega, by omega⟩)) | apply Trace.pu [] (.indexSl el22 (.plain rfl) (.plain rfl) (fun _ => ⟨by omega, by omega⟩))
      first | apply Trace.pu [_] (.loadLoc1D ty3 (.plain rfl) rfl rfl) | apply Trace.pu [_] (.loadLoc1 ty3 (.plain rfl) rfl rfl) | apply Trace.pu [] (.loadRp1 ty3 (.plain rfl) rfl) | apply Trace.pu [_] (.loadCol1 ty3 (.plain rfl) rfl rfl rfl (fun _ => by omega))
      apply Trace.pu [] (.arith (.plain rfl) (.plain rfl) rfl (fun _ => bd64 (by omega)))
      apply Trace.pu [] (.fieldAddr fl34_3 (.plain rfl) rfl)
      first | apply Trace.pu [_] (.loadLoc1D ty3 (.plain rfl) rfl rfl) | apply Trace.pu [_] (.loadLoc1 ty3 (.plain rfl) rfl rfl) | apply Trace.pu [] (.loadRp1 ty3 (.plain rfl) rfl) | apply Trace.pu [_] (.loadCol1 ty3 (.plain rfl) rfl rfl rfl (fun _ => by omega))
      apply Trace.pu [] (.fieldAddr fl25_0 (.plain rfl) rfl)
      first | apply Trace.pu [_] (.loadLoc1D ty22 (.plain rfl) rfl rfl) | apply Trace.pu [_] (.loadLoc1 ty22 (.plain rfl) rfl rfl) | apply Trace.pu [] (.loadRp1 ty22 (.plain rfl) rfl) | apply Trace.pu [_] (.loadCol1 ty22 (.plain rfl) rfl rfl rfl (fun _ => by omega))
      apply Trace.pu [] (.fieldAddr fl34_0 (.plain rfl) rfl)
      first | apply Trace.pu [_] (.loadLoc1D ty3 (.plain rfl) rfl rfl) | apply Trace.pu [_] (.loadLoc1 ty3 (.plain rfl) rfl rfl) | apply Trace.pu [] (.loadRp1 ty3 (.plain rfl) rfl) | apply Trace.pu [_] (.loadCol1 ty3 (.plain rfl) rfl rfl rfl (fun _ => by omega))
      first | apply Trace.pu [] (.indexRows el22 (.plain rfl) (.plain rfl) (fun _ => ⟨by omega, by omega⟩)) | apply Trace.pu [] (.indexOwn el22 (.plain rfl) (.plain rfl) (fun _ => ⟨by omega, by omega⟩)) | apply Trace.pu [] (.indexSl el22 (.plain rfl) (.plain rfl) (fun _ => ⟨by omega, by omega⟩))
      first | apply Trace.pu [_] (.loadLoc1D ty3 (.plain rfl) rfl rfl) | apply Trace.pu [_] (.loadLoc1 ty3 (.plain rfl) rfl rfl) | apply Trace.pu [] (.loadRp1 ty3 (.plain rfl) rfl) | apply Trace.pu [_] (.loadCol1 ty3 (.plain rfl) rfl rfl rfl (fun _ => by omega))
      apply Trace.pu [] (.arith (.plain rfl) (.plain rfl) rfl (fun _ => bd64 (by omega)))
      apply Trace.pu [] (.arith (.plain rfl) (.plain rfl) rfl (fun _ => bd64 (by omega)))
      apply Trace.pu [] (.arith (.plain rfl) (.plain rfl) rfl (fun _ => bd64 (by omega)))
      apply Trace.pu [] (.assign (.plain rfl))
      exact .nil _
    · rfl
    · exact keepOK_of hk hn rfl
    apply WPA.region
    · apply Trace.pu [] (.move (.plain rfl))
      apply Trace.pu [] (.arith (.plain rfl) (.plain rfl) rfl (fun _ => bd64 (by omega)))
      apply Trace.pu [] (.assign (.plain rfl))
      exact .nil _
    · exact keepOK_of hk hn rfl
    exact ⟨i + 1, by omega, by omega, St.le_cons rfl (St.le_cons rfl (St.le_cons (slI hbs.symm) (St.le_cons (slI (by omega)) (St.le_cons rfl (St.le_nil _)))))⟩
  · apply WPA.exit
    apply WPA.seq
    apply WPA.region
    · apply Trace.pu [] (.move (.plain rfl))
      apply Trace.pu [] (.assign (.plain rfl))
      exact .nil _
    · exact keepOK_of hk hn rfl
    apply WPA.ret
    refine ⟨.inr rfl, ⟨_, (.cons (.tmp rfl) .nil), ?_⟩, by simp [St.get]⟩
    have him : i = g.es.length := by
      have : ¬ ((i : Int) < fl.length) := by simpa using hc1
      omega
    subst him
    rfl

/-- soundpost/soundpostref24.Bound -/
theorem spec21 (g : Gr) (hz : g.Sz) (fl : List Int) (hfl : fl.length ≤ 4611686018427387904) : FnSpec Try.prog 21 [g.av, .d (intsD fl)] [] (.tup ([.v (.int .i64 (g.boundP fl).1), .v (.int .i64 (g.boundP fl).2)].map .d)) [] [] := by
  have hn1 := hz.n
  have hn2 := hz.m
  refine fnSpec_of (rs := [.tmp 4, .tmp 5]) Try.func21 rfl rfl (Nat.le_of_ble_eq_true rfl) (by simp [St.get]) fun E hk hn => ?_
  apply WPA.seq
  apply WPA.region
  · first | apply Trace.boxD 2 [] (.plain rfl) rfl rfl | apply Trace.box 2 [] (.plain rfl) rfl rfl rfl
    apply Trace.pu [] (.assign (.plain rfl))
    apply Trace.pu [] (.assign (.plain rfl))
    exact .nil _
  · exact keepOK_of hk hn rfl
  apply WPA.seq
  apply WPA.region
  · first | apply Trace.pu [_] (.loadAllD ty25 (.plain rfl) rfl (by simp)) | apply Trace.pu [_] (.loadLocD ty25 (.plain rfl) rfl (fun _ => by simp)) | apply Trace.pu [_] (.loadLoc ty25 (.plain rfl) rfl (fun _ => Nat.le_of_ble_eq_true rfl)) | apply Trace.pu [] (.loadRp ty25 (.plain rfl) (fun _ => by decide)) | apply Trace.pu [] (.loadRp ty25 (.plain rfl) (fun _ => Nat.le_of_ble_eq_true rfl)) | apply Trace.pu [_] (.loadCol ty25 (.plain rfl) rfl rfl (fun _ => by decide) (fun _ => by omega)) | apply Trace.pu [_] (.loadArr ty25 (.plain rfl) rfl)
    apply Trace.cu (callArgs0 (.cons (.plain rfl) .nil)) (spec13 g hz) en13
    apply Trace.pu [] (.assign (.plain rfl))
    exact .nil _
  · exact keepOK_of hk hn rfl
  apply WPA.seq
  apply WPA.seq
  apply WPA.region
  · apply Trace.pu [] (.move (.plain rfl))
    apply Trace.pu [] (.cmp (.plain rfl) (.plain rfl) rfl)
    exact .nil _
  · exact keepOK_of hk hn rfl
  refine WPA.cond rfl (fun hc1 => ?_) (fun hc1 => ?_)
  · have hC : g.check ≠ 0 := by simpa using hc1
    have hM : g.boundP fl = (0, g.check) := by unfold Gr.boundP; rw [if_pos hC]
    apply WPA.seq
    apply WPA.region
    · apply Trace.pu [] (.move (.plain rfl))
      apply Trace.pu [] (.assign (.plain rfl))
      apply Trace.pu [] (.assign (.plain rfl))
      exact .nil _
    · exact keepOK_of hk hn rfl
    apply WPA.ret
    refine ⟨.inr rfl, ⟨_, (.cons (.tmp rfl) (.cons (.tmp rfl) .nil)), ?_⟩, by simp [St.get]⟩
    rw [hM]; rfl
  · have hC : g.check = 0 := by simpa using hc1
    have hok := g.ok_of (check_formed hC)
    apply WPA.skip
    apply WPA.seq
    apply WPA.seq
    apply WPA.region
    · first | apply Trace.pu [_] (.loadAllD ty25 (.plain rfl) rfl (by simp)) | apply Trace.pu [_] (.loadLocD ty25 (.plain rfl) rfl (fun _ => by simp)) | apply Trace.pu [_] (.loadLoc ty25 (.plain rfl) rfl (fun _ => Nat.le_of_ble_eq_true rfl)) | apply Trace.pu [] (.loadRp ty25 (.plain rfl) (fun _ => by decide)) | apply Trace.pu [] (.loadRp ty25 (.plain rfl) (fun _ => Nat.le_of_ble_eq_true rfl)) | apply Trace.pu [_] (.loadCol ty25 (.plain rfl) rfl rfl (fun _ => by decide) (fun _ => by omega)) | apply Trace.pu [_] (.loadArr ty25 (.plain rfl) rfl)
      apply Trace.pu [] (.move (.plain rfl))
      apply Trace.cu (callArgs0 (.cons (.plain rfl) (.cons (.plain rfl) .nil))) (spec25 hok fl hfl) en25
      apply Trace.pu [] (.not (.plain rfl))
      exact .nil _
    · exact keepOK_of hk hn rfl
    refine WPA.cond rfl (fun hc2 => ?_) (fun hc2 => ?_)
    · have hB : ¬ g.flowB fl = true := by simpa using hc2
      have hM : g.boundP fl = (0, 240) := by unfold Gr.boundP; rw [if_neg (by rw [hC]; decide), if_neg hB]
      apply WPA.seq
      apply WPA.region
      · apply Trace.pu [] (.assign (.plain rfl))
        apply Trace.pu [] (.assign (.plain rfl))
        exact .nil _
      · exact keepOK_of hk hn rfl
      apply WPA.ret
      refine ⟨.inr rfl, ⟨_, (.cons (.tmp rfl) (.cons (.tmp rfl) .nil)), ?_⟩, by simp [St.get]⟩
      rw [hM]; rfl
    · have hB : g.flowB fl = true := by simpa using hc2
      obtain ⟨k1, k2, _⟩ := (flowB_iff hok).1 hB
      have hM : g.boundP fl = (g.bnd fl g.es.length, 0) := by unfold Gr.boundP; rw [if_neg (by rw [hC]; decide), if_pos hB]
      apply WPA.skip
      apply WPA.seq
      apply WPA.region
      · first | apply Trace.pu [_] (.loadAllD ty25 (.plain rfl) rfl (by simp)) | apply Trace.pu [_] (.loadLocD ty25 (.plain rfl) rfl (fun _ => by simp)) | apply Trace.pu [_] (.loadLoc ty25 (.plain rfl) rfl (fun _ => Nat.le_of_ble_eq_true rfl)) | apply Trace.pu [] (.loadRp ty25 (.plain rfl) (fun _ => by decide)) | apply Trace.pu [] (.loadRp ty25 (.plain rfl) (fun _ => Nat.le_of_ble_eq_true rfl)) | apply Trace.pu [_] (.loadCol ty25 (.plain rfl) rfl rfl (fun _ => by decide) (fun _ => by omega)) | apply Trace.pu [_] (.loadArr ty25 (.plain rfl) rfl)
        apply Trace.pu [] (.move (.plain rfl))
        apply Trace.cu (callArgs0 (.cons (.plain rfl) (.cons (.plain rfl) .nil))) (spec41 hok k1 k2) en41
        apply Trace.pu [] (.assign (.plain rfl))
        apply Trace.pu [] (.assign (.plain rfl))
        exact .nil _
      · exact keepOK_of hk hn rfl
      apply WPA.ret
      refine ⟨.inr rfl, ⟨_, (.cons (.tmp rfl) (.cons (.tmp rfl) .nil)), ?_⟩, by simp [St.get]⟩
      rw [hM]; rfl

/-- soundpost/soundpostref24.same -/
theorem spec64 (a b : List Int) (ha : a.length ≤ 4611686018427387904) (hb : b.length ≤ 4611686018427387904) : FnSpec Try.prog 64 [.d (intsD a), .d (intsD b)] [] (bv (decide (a = b))) [] [] := by
  refine fnSpec_of (rs := [.tmp 4]) Try.func64 rfl rfl (Nat.le_of_ble_eq_true rfl) (by simp [St.get]) fun E hk hn => ?_
  apply WPA.seq
  apply WPA.region
  · apply Trace.pu [] (.assign (.plain rfl))
    exact .nil _
  · exact keepOK_of hk hn rfl
  apply WPA.seq
  apply WPA.seq
  apply WPA.region
  · apply Trace.pu [] (.move (.plain rfl))
    apply Trace.pu [] (.len rfl Try.underlying22 (.plain rfl) rfl)
    apply Trace.pu [] (.move (.plain rfl))
    apply Trace.pu [] (.len rfl Try.underlying22 (.plain rfl) rfl)
    apply Trace.pu [] (.cmp (.plain rfl) (.plain rfl) rfl)
    exact .nil _
  · exact keepOK_of hk hn rfl
  refine WPA.cond rfl (fun hc1 => ?_) (fun hc1 => ?_)
  · apply WPA.seq
    apply WPA.region
    · apply Trace.pu [] (.assign (.plain rfl))
      exact .nil _
    · exact keepOK_of hk hn rfl
    apply WPA.ret
    refine ⟨.inr rfl, ⟨_, (.cons (.tmp rfl) .nil), ?_⟩, by simp [St.get]⟩
    have hl : a.length ≠ b.length := by
      have : ((a.length : Int) ≠ b.length) := by simpa using hc1
      omega
    rw [decide_eq_false (fun e => hl (congrArg List.length e))]
    rfl
  · have hl : a.length = b.length := by
      have : ¬ ((a.length : Int) ≠ b.length) := by simpa using hc1
      omega
    apply WPA.skip
    apply WPA.seq
    apply WPA.seq
    apply WPA.region
    · apply Trace.pu [] (.assign (.plain rfl))
      exact .nil _
    · exact keepOK_of hk hn rfl
    apply WPA.block
    refine WPA.loop (σ := Nat) (fun i => [(sl 0, .av (.d (intsD a))), (sl 1, .av (.d (intsD b))), (sl 5, .av (iv .i64 (i)))]) (fun i => i ≤ a.length ∧ ∀ j, j < i → a.getD j 0 = b.getD j 0) (fun i => a.length - i) 0
      (St.le_cons rfl (St.le_cons rfl (St.le_cons rfl (St.le_nil _)))) ⟨Nat.zero_le _, fun j h => by omega⟩ fun i hi => ?_
    apply WPA.seq
    apply WPA.seq
    apply WPA.region
    · apply Trace.pu [] (.move (.plain rfl))
      apply Trace.pu [] (.move (.plain rfl))
      apply Trace.pu [] (.len rfl Try.underlying22 (.plain rfl) rfl)
      apply Trace.pu [] (.cmp (.plain rfl) (.plain rfl) rfl)
      exact .nil _
    · exact keepOK_of hk hn rfl
    refine WPA.cond rfl (fun hc2 => ?_) (fun hc2 => ?_)
    · have hlt : i < a.length := by simpa using hc2
      have hbn : b.length = a.length := hl.symm
      apply WPA.skip
      apply WPA.seq
      apply WPA.block
      apply WPA.seq
      apply WPA.draw mixed
      · apply Trace.pu [] (.move (.plain rfl))
        apply Trace.pu [] (.move (.plain rfl))
        first | apply Trace.pu [] (.indexRows el22 (.plain rfl) (.plain rfl) (fun _ => ⟨by omega, by omega⟩)) | apply Trace.pu [] (.indexOwn el22 (.plain rfl) (.plain rfl) (fun _ => ⟨by omega, by omega⟩)) | apply Trace.pu [] (.indexSl el22 (.plain rfl) (.plain rfl) (fun _ => ⟨by omega, by omega⟩))
        first | apply Trace.pu [_] (.loadLoc1D ty3 (.plain rfl) rfl rfl) | apply Trace.pu [_] (.loadLoc1 ty3 (.plain rfl) rfl rfl) | apply Trace.pu [] (.loadRp1 ty3 (.plain rfl) rfl) | apply Trace.pu [_] (.loadCol1 ty3 (.plain rfl) rfl rfl rfl (fun _ => by omega))
        apply Trace.pu [] (.move (.plain rfl))
        apply Trace.pu [] (.move (.plain rfl))
        first | apply Trace.pu [] (.indexRows el22 (.plain rfl) (.plain rfl) (fun _ => ⟨by omega, by omega⟩)) | apply Trace.pu [] (.indexOwn el22 (.plain rfl) (.plain rfl) (fun _ => ⟨by omega, by omega⟩)) | apply Trace.pu [] (.indexSl el22 (.plain rfl) (.plain rfl) (fun _ => ⟨by omega, by omega⟩))
        first | apply Trace.pu [_] (.loadLoc1D ty3 (.plain rfl) rfl rfl) | apply Trace.pu [_] (.loadLoc1 ty3 (.plain rfl) rfl rfl) | apply Trace.pu [] (.loadRp1 ty3 (.plain rfl) rfl) | apply Trace.pu [_] (.loadCol1 ty3 (.plain rfl) rfl rfl rfl (fun _ => by omega))
        apply Trace.pu [] (.cmp (.plain rfl) (.plain rfl) rfl)
        exact .nil _
      · rfl
      · exact keepOK_of hk hn rfl
      refine WPA.cond rfl (fun hc3 => ?_) (fun hc3 => ?_)
      · apply WPA.seq
        apply WPA.region
        · apply Trace.pu [] (.assign (.plain rfl))
          exact .nil _
        · exact keepOK_of hk hn rfl
        apply WPA.ret
        refine ⟨.inr rfl, ⟨_, (.cons (.tmp rfl) .nil), ?_⟩, by simp [St.get]⟩
        have hx : ¬ (a.getD i 0 = b.getD i 0) := by simpa using hc3
        rw [decide_eq_false (fun e => hx (by rw [e]))]
        rfl
      · apply WPA.skip
        apply WPA.region
        · apply Trace.pu [] (.move (.plain rfl))
          apply Trace.pu [] (.arith (.plain rfl) (.plain rfl) rfl (fun _ => bd64 (by omega)))
          apply Trace.pu [] (.assign (.plain rfl))
          exact .nil _
        · exact keepOK_of hk hn rfl
        have hx : a.getD i 0 = b.getD i 0 := by simpa using hc3
        exact ⟨i + 1, ⟨by omega, fun j h => by
          by_cases hj : j = i
          · rw [hj]; exact hx
          · exact hi.2 j (by omega)⟩, by omega, St.le_cons rfl (St.le_cons rfl (St.le_cons (slI (by omega)) (St.le_nil _)))⟩
    · apply WPA.exit
      apply WPA.seq
      apply WPA.region
      · apply Trace.pu [] (.assign (.plain rfl))
        exact .nil _
      · exact keepOK_of hk hn rfl
      apply WPA.ret
      refine ⟨.inr rfl, ⟨_, (.cons (.tmp rfl) .nil), ?_⟩, by simp [St.get]⟩
      have hn : a.length ≤ i := by
        have : ¬ ((i : Int) < a.length) := by simpa using hc2
        omega
      rw [decide_eq_true (eq_fn hl fun j hj => hi.2 j (by omega))]
      rfl

/-- soundpost/soundpostref24.SamePlan -/
theorem spec54 (p q : Pl) (h1 : p.at_.length ≤ 4611686018427387904) (h2 : p.del.length ≤ 4611686018427387904) (h3 : q.at_.length ≤ 4611686018427387904) (h4 : q.del.length ≤ 4611686018427387904) : FnSpec Try.prog 54 [.d p.d, .d q.d] [] (bv (bif (bif decide (p.at_ = q.at_) then decide (p.del = q.del) else false) then decide (p.mem = q.mem) else false)) [] [] := by
  refine fnSpec_of (rs := [.tmp 4]) Try.func54 rfl rfl (Nat.le_of_ble_eq_true rfl) (by simp [St.get]) fun E hk hn => ?_
  apply WPA.seq
  apply WPA.region
  · first | apply Trace.boxD 2 [] (.plain rfl) rfl rfl | apply Trace.box 2 [] (.plain rfl) rfl rfl rfl
    first | apply Trace.boxD 3 [] (.plain rfl) rfl rfl | apply Trace.box 3 [] (.plain rfl) rfl rfl rfl
    apply Trace.pu [] (.assign (.plain rfl))
    exact .nil _
  · exact keepOK_of hk hn rfl
  apply WPA.seq
  apply WPA.region
  · apply Trace.pu [] (.fieldAddr fl28_0 (.plain rfl) rfl)
    first | apply Trace.pu [_] (.loadLoc1D ty22 (.plain rfl) rfl rfl) | apply Trace.pu [_] (.loadLoc1 ty22 (.plain rfl) rfl rfl) | apply Trace.pu [] (.loadRp1 ty22 (.plain rfl) rfl) | apply Trace.pu [_] (.loadCol1 ty22 (.plain rfl) rfl rfl rfl (fun _ => by omega))
    apply Trace.pu [] (.fieldAddr fl28_0 (.plain rfl) rfl)
    first | apply Trace.pu [_] (.loadLoc1D ty22 (.plain rfl) rfl rfl) | apply Trace.pu [_] (.loadLoc1 ty22 (.plain rfl) rfl rfl) | apply Trace.pu [] (.loadRp1 ty22 (.plain rfl) rfl) | apply Trace.pu [_] (.loadCol1 ty22 (.plain rfl) rfl rfl rfl (fun _ => by omega))
    apply Trace.cu (callArgs0 (.cons (.plain rfl) (.cons (.plain rfl) .nil))) (spec64 p.at_ q.at_ h1 h3) en64
    apply Trace.pu [] (.move (.plain rfl))
    apply Trace.pg [] rfl (.fieldAddr fl28_1 (.plain rfl) rfl)
    first | apply Trace.pg [_] rfl (.loadLoc1D ty22 (.gd rfl (fun h => h)) rfl rfl) | apply Trace.pg [_] rfl (.loadLoc1 ty22 (.gd rfl (fun h => h)) rfl rfl) | apply Trace.pg [] rfl (.loadRp1 ty22 (.gd rfl (fun h => h)) rfl) | apply Trace.pg [_] rfl (.loadCol1 ty22 (.gd rfl (fun h => h)) rfl rfl rfl (fun _ => by omega))
    apply Trace.pg [] rfl (.fieldAddr fl28_1 (.plain rfl) rfl)
    first | apply Trace.pg [_] rfl (.loadLoc1D ty22 (.gd rfl (fun h => h)) rfl rfl) | apply Trace.pg [_] rfl (.loadLoc1 ty22 (.gd rfl (fun h => h)) rfl rfl) | apply Trace.pg [] rfl (.loadRp1 ty22 (.gd rfl (fun h => h)) rfl) | apply Trace.pg [_] rfl (.loadCol1 ty22 (.gd rfl (fun h => h)) rfl rfl rfl (fun _ => by omega))
    apply Trace.cg rfl (callArgs0 (.cons (.gd rfl (fun h => h)) (.cons (.gd rfl (fun h => h)) .nil))) (fun _ => spec64 p.del q.del h2 h4) en64
    apply Trace.pu [] (.pick (.plain rfl) (.gd rfl (by simp)) (.plain rfl))
    apply Trace.pu [] (.move (.plain rfl))
    apply Trace.pg [] rfl (.fieldAddr fl28_2 (.plain rfl) rfl)
    first | apply Trace.pg [_] rfl (.loadLoc1D ty3 (.gd rfl (fun h => h)) rfl rfl) | apply Trace.pg [_] rfl (.loadLoc1 ty3 (.gd rfl (fun h => h)) rfl rfl) | apply Trace.pg [] rfl (.loadRp1 ty3 (.gd rfl (fun h => h)) rfl) | apply Trace.pg [_] rfl (.loadCol1 ty3 (.gd rfl (fun h => h)) rfl rfl rfl (fun _ => by omega))
    apply Trace.pg [] rfl (.fieldAddr fl28_2 (.plain rfl) rfl)
    first | apply Trace.pg [_] rfl (.loadLoc1D ty3 (.gd rfl (fun h => h)) rfl rfl) | apply Trace.pg [_] rfl (.loadLoc1 ty3 (.gd rfl (fun h => h)) rfl rfl) | apply Trace.pg [] rfl (.loadRp1 ty3 (.gd rfl (fun h => h)) rfl) | apply Trace.pg [_] rfl (.loadCol1 ty3 (.gd rfl (fun h => h)) rfl rfl rfl (fun _ => by omega))
    apply Trace.pg [] rfl (.cmp (.gd rfl (fun h => h)) (.gd rfl (fun h => h)) rfl)
    apply Trace.pu [] (.pick (.plain rfl) (.gd rfl (by simp)) (.plain rfl))
    apply Trace.pu [] (.assign (.plain rfl))
    exact .nil _
  · exact keepOK_of hk hn rfl
  apply WPA.ret
  refine ⟨.inr rfl, ⟨_, (.cons (.tmp rfl) .nil), ?_⟩, by simp [St.get]⟩
  rfl

theorem memR {g : Gr} (hz : g.Sz) {at_ : List Int} (ha : at_.length ≤ 17592186044416) {p : Pl} {c : Int} (h : g.memory at_ = (p, c)) : FnSpec Try.prog 53 [g.av, .d (intsD at_)] [] (.tup ([p.d, .v (.int .i64 c)].map .d)) [] [] := by
  have := spec53 g hz at_ ha
  rw [h] at this
  exact this
theorem memory_at {g : Gr} {l : List Int} (h : (g.memory l).2 = 0) : (g.memory l).1.at_ = l := by rw [(memory_ok h).2.2]; rfl
theorem memory_atl {g : Gr} {l : List Int} (h : l.length ≤ 4611686018427387904) : (g.memory l).1.at_.length ≤ 4611686018427387904 := by
  by_cases e : (g.memory l).2 = 0
  · rw [memory_at e]; exact h
  · rw [memory_err e]; decide
/-- soundpost/soundpostref24.plan -/
theorem spec42 (g : Gr) (hz : g.Sz) (p : Pl) (hp : p.Sz) : FnSpec Try.prog 42 [g.av, .d p.d] [] (bv (g.isPlan p)) [] [] := by
  have hn1 := hz.n
  have hn2 := hz.m
  have hp1 := hp.a
  have hp2 := hp.d
  refine fnSpec_of (rs := [.tmp 4]) Try.func42 rfl rfl (Nat.le_of_ble_eq_true rfl) (by simp [St.get]) fun E hk hn => ?_
  apply WPA.seq
  apply WPA.region
  · first | apply Trace.boxD 2 [] (.plain rfl) rfl rfl | apply Trace.box 2 [] (.plain rfl) rfl rfl rfl
    first | apply Trace.boxD 3 [] (.plain rfl) rfl rfl | apply Trace.box 3 [] (.plain rfl) rfl rfl rfl
    apply Trace.pu [] (.assign (.plain rfl))
    exact .nil _
  · exact keepOK_of hk hn rfl
  apply WPA.seq
  apply WPA.region
  · first | apply Trace.pu [_] (.loadAllD ty25 (.plain rfl) rfl (by simp)) | apply Trace.pu [_] (.loadLocD ty25 (.plain rfl) rfl (fun _ => by simp)) | apply Trace.pu [_] (.loadLoc ty25 (.plain rfl) rfl (fun _ => Nat.le_of_ble_eq_true rfl)) | apply Trace.pu [] (.loadRp ty25 (.plain rfl) (fun _ => by decide)) | apply Trace.pu [] (.loadRp ty25 (.plain rfl) (fun _ => Nat.le_of_ble_eq_true rfl)) | apply Trace.pu [_] (.loadCol ty25 (.plain rfl) rfl rfl (fun _ => by decide) (fun _ => by omega)) | apply Trace.pu [_] (.loadArr ty25 (.plain rfl) rfl)
    apply Trace.pu [] (.fieldAddr fl28_0 (.plain rfl) rfl)
    first | apply Trace.pu [_] (.loadLoc1D ty22 (.plain rfl) rfl rfl) | apply Trace.pu [_] (.loadLoc1 ty22 (.plain rfl) rfl rfl) | apply Trace.pu [] (.loadRp1 ty22 (.plain rfl) rfl) | apply Trace.pu [_] (.loadCol1 ty22 (.plain rfl) rfl rfl rfl (fun _ => by omega))
    apply Trace.ct (callArgs0 (.cons (.plain rfl) (.cons (.plain rfl) .nil))) (memR hz (at_ := p.at_) hp.a (p := (g.memory p.at_).1) (c := (g.memory p.at_).2) rfl) en53
    apply Trace.pu [] (.move (.plain rfl))
    apply Trace.pu [] (.extract (.plain rfl) rfl)
    apply Trace.pu [] (.extract (.plain rfl) rfl)
    apply Trace.alloc 5 [] (.data _) zo28 (cellsAs_data _) rfl
    first | apply Trace.storeD ty28 (.plain rfl) (.plain rfl) rfl rfl (by simp) (by simp [AV.oneB, single, intsD, rowsD]) (by simp) (spliceL_all (by simp)) | apply Trace.storeD ty28 (.plain rfl) (.plain rfl) rfl rfl (by simp) (by simp [AV.oneB, single, intsD, rowsD]) (by simp) rfl | apply Trace.storeDA ty28 (.plain rfl) (.plain rfl) rfl rfl (by simp) (by simp [AV.oneB, single]) (by simp) rfl | apply Trace.storeLoc ty28 (.plain rfl) (.plain rfl) rfl rfl (by simp) (by simp [AV.oneB, single]) (by simp) rfl | apply Trace.storeRow ty28 (.plain rfl) (.plain rfl) rfl rfl rfl rfl (by decide) (by simp [AV.oneB, single]) rfl (by omega)
    apply Trace.pu [] (.assign (.plain rfl))
    exact .nil _
  · exact keepOK_of hk hn rfl
  apply WPA.seq
  apply WPA.region
  · apply Trace.pu [] (.move (.plain rfl))
    apply Trace.pu [] (.cmp (.plain rfl) (.plain rfl) rfl)
    apply Trace.pu [] (.move (.plain rfl))
    first | apply Trace.pg [_] rfl (.loadAllD ty28 (.plain rfl) rfl (by simp)) | apply Trace.pg [_] rfl (.loadLocD ty28 (.plain rfl) rfl (fun _ => by simp)) | apply Trace.pg [_] rfl (.loadLoc ty28 (.plain rfl) rfl (fun _ => Nat.le_of_ble_eq_true rfl)) | apply Trace.pg [] rfl (.loadRp ty28 (.plain rfl) (fun _ => by decide)) | apply Trace.pg [] rfl (.loadRp ty28 (.plain rfl) (fun _ => Nat.le_of_ble_eq_true rfl)) | apply Trace.pg [_] rfl (.loadCol ty28 (.plain rfl) rfl rfl (fun _ => by decide) (fun _ => by omega)) | apply Trace.pg [_] rfl (.loadArr ty28 (.plain rfl) rfl)
    first | apply Trace.pg [_] rfl (.loadAllD ty28 (.plain rfl) rfl (by simp)) | apply Trace.pg [_] rfl (.loadLocD ty28 (.plain rfl) rfl (fun _ => by simp)) | apply Trace.pg [_] rfl (.loadLoc ty28 (.plain rfl) rfl (fun _ => Nat.le_of_ble_eq_true rfl)) | apply Trace.pg [] rfl (.loadRp ty28 (.plain rfl) (fun _ => by decide)) | apply Trace.pg [] rfl (.loadRp ty28 (.plain rfl) (fun _ => Nat.le_of_ble_eq_true rfl)) | apply Trace.pg [_] rfl (.loadCol ty28 (.plain rfl) rfl rfl (fun _ => by decide) (fun _ => by omega)) | apply Trace.pg [_] rfl (.loadArr ty28 (.plain rfl) rfl)
    apply Trace.cg rfl (callArgs0 (.cons (.gd rfl (fun h => h)) (.cons (.gd rfl (fun h => h)) .nil))) (fun _ => spec54 (g.memory p.at_).1 p (memory_atl (by omega)) (memory_del hz _) (by omega) (by omega)) en54
    apply Trace.pu [] (.pick (.plain rfl) (.gd rfl (by simp)) (.plain rfl))
    apply Trace.pu [] (.assign (.plain rfl))
    exact .nil _
  · exact keepOK_of hk hn rfl
  apply WPA.ret
  refine ⟨.inr rfl, ⟨_, (.cons (.tmp rfl) .nil), ?_⟩, by simp [St.get]⟩
  have e : g.isPlan p = (bif decide ((g.memory p.at_).2 = 0) then (bif (bif decide ((g.memory p.at_).1.at_ = p.at_) then decide ((g.memory p.at_).1.del = p.del) else false) then decide ((g.memory p.at_).1.mem = p.mem) else false) else false) := by
    by_cases h : (g.memory p.at_).2 = 0
    · rw [memory_at h]
      unfold Gr.isPlan
      rw [decide_eq_true h, decide_eq_true (rfl : p.at_ = p.at_)]
      simp only [Bool.true_and, cond_true]
      rw [bif_and]
      congr 1
      · exact decide_eq_decide.2 ⟨Eq.symm, Eq.symm⟩
      · exact decide_eq_decide.2 ⟨Eq.symm, Eq.symm⟩
    · unfold Gr.isPlan
      rw [decide_eq_false h]; rfl
  rw [e]; rfl

/-- soundpost/soundpostref24.Check -/
theorem spec22 (g : Gr) (hz : g.Sz) (p : Pl) (hp : p.Sz) (fl : List Int) (hfl : fl.length ≤ 4611686018427387904) : FnSpec Try.prog 22 [g.av, .d p.d, .d (intsD fl)] [] (.tup ([.v (.bool (g.certP p fl).1), .v (.int .i64 (g.certP p fl).2)].map .d)) [] [] := by
  have hn1 := hz.n
  have hn2 := hz.m
  refine fnSpec_of (rs := [.tmp 6, .tmp 7]) Try.func22 rfl rfl (Nat.le_of_ble_eq_true rfl) (by simp [St.get]) fun E hk hn => ?_
  apply WPA.seq
  apply WPA.region
  · first | apply Trace.boxD 3 [] (.plain rfl) rfl rfl | apply Trace.box 3 [] (.plain rfl) rfl rfl rfl
    first | apply Trace.boxD 4 [] (.plain rfl) rfl rfl | apply Trace.box 4 [] (.plain rfl) rfl rfl rfl
    apply Trace.pu [] (.assign (.plain rfl))
    apply Trace.pu [] (.assign (.plain rfl))
    exact .nil _
  · exact keepOK_of hk hn rfl
  apply WPA.seq
  apply WPA.region
  · first | apply Trace.pu [_] (.loadAllD ty25 (.plain rfl) rfl (by simp)) | apply Trace.pu [_] (.loadLocD ty25 (.plain rfl) rfl (fun _ => by simp)) | apply Trace.pu [_] (.loadLoc ty25 (.plain rfl) rfl (fun _ => Nat.le_of_ble_eq_true rfl)) | apply Trace.pu [] (.loadRp ty25 (.plain rfl) (fun _ => by decide)) | apply Trace.pu [] (.loadRp ty25 (.plain rfl) (fun _ => Nat.le_of_ble_eq_true rfl)) | apply Trace.pu [_] (.loadCol ty25 (.plain rfl) rfl rfl (fun _ => by decide) (fun _ => by omega)) | apply Trace.pu [_] (.loadArr ty25 (.plain rfl) rfl)
    apply Trace.cu (callArgs0 (.cons (.plain rfl) .nil)) (spec13 g hz) en13
    apply Trace.pu [] (.assign (.plain rfl))
    exact .nil _
  · exact keepOK_of hk hn rfl
  apply WPA.seq
  apply WPA.seq
  apply WPA.region
  · apply Trace.pu [] (.move (.plain rfl))
    apply Trace.pu [] (.cmp (.plain rfl) (.plain rfl) rfl)
    exact .nil _
  · exact keepOK_of hk hn rfl
  refine WPA.cond rfl (fun hc1 => ?_) (fun hc1 => ?_)
  · have hC : g.check ≠ 0 := by simpa using hc1
    have hM : g.certP p fl = (false, g.check) := by unfold Gr.certP; rw [if_pos hC]
    apply WPA.seq
    apply WPA.region
    · apply Trace.pu [] (.move (.plain rfl))
      apply Trace.pu [] (.assign (.plain rfl))
      apply Trace.pu [] (.assign (.plain rfl))
      exact .nil _
    · exact keepOK_of hk hn rfl
    apply WPA.ret
    refine ⟨.inr rfl, ⟨_, (.cons (.tmp rfl) (.cons (.tmp rfl) .nil)), ?_⟩, by simp [St.get]⟩
    rw [hM]; rfl
  · have hC : g.check = 0 := by simpa using hc1
    have hok := g.ok_of (check_formed hC)
    apply WPA.skip
    apply WPA.seq
    apply WPA.seq
    apply WPA.region
    · first | apply Trace.pu [_] (.loadAllD ty25 (.plain rfl) rfl (by simp)) | apply Trace.pu [_] (.loadLocD ty25 (.plain rfl) rfl (fun _ => by simp)) | apply Trace.pu [_] (.loadLoc ty25 (.plain rfl) rfl (fun _ => Nat.le_of_ble_eq_true rfl)) | apply Trace.pu [] (.loadRp ty25 (.plain rfl) (fun _ => by decide)) | apply Trace.pu [] (.loadRp ty25 (.plain rfl) (fun _ => Nat.le_of_ble_eq_true rfl)) | apply Trace.pu [_] (.loadCol ty25 (.plain rfl) rfl rfl (fun _ => by decide) (fun _ => by omega)) | apply Trace.pu [_] (.loadArr ty25 (.plain rfl) rfl)
      first | apply Trace.pu [_] (.loadAllD ty28 (.plain rfl) rfl (by simp)) | apply Trace.pu [_] (.loadLocD ty28 (.plain rfl) rfl (fun _ => by simp)) | apply Trace.pu [_] (.loadLoc ty28 (.plain rfl) rfl (fun _ => Nat.le_of_ble_eq_true rfl)) | apply Trace.pu [] (.loadRp ty28 (.plain rfl) (fun _ => by decide)) | apply Trace.pu [] (.loadRp ty28 (.plain rfl) (fun _ => Nat.le_of_ble_eq_true rfl)) | apply Trace.pu [_] (.loadCol ty28 (.plain rfl) rfl rfl (fun _ => by decide) (fun _ => by omega)) | apply Trace.pu [_] (.loadArr ty28 (.plain rfl) rfl)
      apply Trace.cu (callArgs0 (.cons (.plain rfl) (.cons (.plain rfl) .nil))) (spec42 g hz p hp) en42
      apply Trace.pu [] (.not (.plain rfl))
      exact .nil _
    · exact keepOK_of hk hn rfl
    refine WPA.cond rfl (fun hc2 => ?_) (fun hc2 => ?_)
    · have hB : ¬ g.isPlan p = true := by simpa using hc2
      have hM : g.certP p fl = (false, 230) := by unfold Gr.certP; rw [if_neg (by rw [hC]; decide), if_neg hB]
      apply WPA.seq
      apply WPA.region
      · apply Trace.pu [] (.assign (.plain rfl))
        apply Trace.pu [] (.assign (.plain rfl))
        exact .nil _
      · exact keepOK_of hk hn rfl
      apply WPA.ret
      refine ⟨.inr rfl, ⟨_, (.cons (.tmp rfl) (.cons (.tmp rfl) .nil)), ?_⟩, by simp [St.get]⟩
      rw [hM]; rfl
    · have hP : g.isPlan p = true := by simpa using hc2
      apply WPA.skip
      apply WPA.seq
      apply WPA.seq
      apply WPA.region
      · first | apply Trace.pu [_] (.loadAllD ty25 (.plain rfl) rfl (by simp)) | apply Trace.pu [_] (.loadLocD ty25 (.plain rfl) rfl (fun _ => by simp)) | apply Trace.pu [_] (.loadLoc ty25 (.plain rfl) rfl (fun _ => Nat.le_of_ble_eq_true rfl)) | apply Trace.pu [] (.loadRp ty25 (.plain rfl) (fun _ => by decide)) | apply Trace.pu [] (.loadRp ty25 (.plain rfl) (fun _ => Nat.le_of_ble_eq_true rfl)) | apply Trace.pu [_] (.loadCol ty25 (.plain rfl) rfl rfl (fun _ => by decide) (fun _ => by omega)) | apply Trace.pu [_] (.loadArr ty25 (.plain rfl) rfl)
        apply Trace.pu [] (.move (.plain rfl))
        apply Trace.cu (callArgs0 (.cons (.plain rfl) (.cons (.plain rfl) .nil))) (spec25 hok fl hfl) en25
        apply Trace.pu [] (.not (.plain rfl))
        exact .nil _
      · exact keepOK_of hk hn rfl
      refine WPA.cond rfl (fun hc3 => ?_) (fun hc3 => ?_)
      · have hB : ¬ g.flowB fl = true := by simpa using hc3
        have hM : g.certP p fl = (false, 240) := by unfold Gr.certP; rw [if_neg (by rw [hC]; decide), if_pos hP, if_neg hB]
        apply WPA.seq
        apply WPA.region
        · apply Trace.pu [] (.assign (.plain rfl))
          apply Trace.pu [] (.assign (.plain rfl))
          exact .nil _
        · exact keepOK_of hk hn rfl
        apply WPA.ret
        refine ⟨.inr rfl, ⟨_, (.cons (.tmp rfl) (.cons (.tmp rfl) .nil)), ?_⟩, by simp [St.get]⟩
        rw [hM]; rfl
      · have hB : g.flowB fl = true := by simpa using hc3
        obtain ⟨k1, k2, _⟩ := (flowB_iff hok).1 hB
        have hM : g.certP p fl = (decide (g.bnd fl g.es.length = p.mem), 0) := by unfold Gr.certP; rw [if_neg (by rw [hC]; decide), if_pos hP, if_pos hB]
        apply WPA.skip
        apply WPA.seq
        apply WPA.draw mixed
        · first | apply Trace.pu [_] (.loadAllD ty25 (.plain rfl) rfl (by simp)) | apply Trace.pu [_] (.loadLocD ty25 (.plain rfl) rfl (fun _ => by simp)) | apply Trace.pu [_] (.loadLoc ty25 (.plain rfl) rfl (fun _ => Nat.le_of_ble_eq_true rfl)) | apply Trace.pu [] (.loadRp ty25 (.plain rfl) (fun _ => by decide)) | apply Trace.pu [] (.loadRp ty25 (.plain rfl) (fun _ => Nat.le_of_ble_eq_true rfl)) | apply Trace.pu [_] (.loadCol ty25 (.plain rfl) rfl rfl (fun _ => by decide) (fun _ => by omega)) | apply Trace.pu [_] (.loadArr ty25 (.plain rfl) rfl)
          apply Trace.pu [] (.move (.plain rfl))
          apply Trace.cu (callArgs0 (.cons (.plain rfl) (.cons (.plain rfl) .nil))) (spec41 hok k1 k2) en41
          apply Trace.pu [] (.fieldAddr fl28_2 (.plain rfl) rfl)
          first | apply Trace.pu [_] (.loadLoc1D ty3 (.plain rfl) rfl rfl) | apply Trace.pu [_] (.loadLoc1 ty3 (.plain rfl) rfl rfl) | apply Trace.pu [] (.loadRp1 ty3 (.plain rfl) rfl) | apply Trace.pu [_] (.loadCol1 ty3 (.plain rfl) rfl rfl rfl (fun _ => by omega))
          apply Trace.pu [] (.cmp (.plain rfl) (.plain rfl) rfl)
          apply Trace.pu [] (.assign (.plain rfl))
          apply Trace.pu [] (.assign (.plain rfl))
          exact .nil _
        · rfl
        · exact keepOK_of hk hn rfl
        apply WPA.ret
        refine ⟨.inr rfl, ⟨_, (.cons (.tmp rfl) (.cons (.tmp rfl) .nil)), ?_⟩, by simp [St.get]⟩
        rw [hM]; rfl

end Go.Proofs.Ytcidkahhfdcddaa


/- CertifyScaled. -/
namespace Go.Proofs.Ytcidkahhfdcddaa
open Go
set_option linter.unusedVariables false
set_option linter.unusedSimpArgs false
set_option maxRecDepth 10000
set_option maxHeartbeats 1000000

theorem Ghost.recol {E : Env} {S : St} {l n len : Nat} {cs cs' : List Col} (hb : S.get (bk l) = some (.blk (.app n len cs))) (h0 : cs'.length = cs.length) (h1 : ∀ c ∈ cs', c.len = len) (h2 : ∀ i, i < len → cs'.map (Col.at · i) = cs.map (Col.at · i)) : Ghost E S ((bk l, .blk (.app n len cs')) :: S) := by
  refine (Ghost.reblk (B' := .app n len cs') hb fun V M w h => ?_).trans (Ghost.weaken fun m c e => by rw [upd_one]; rw [get_cons] at e; exact e)
  obtain ⟨g1, g2, g3⟩ := h
  refine ⟨by rw [h0]; exact g1, h1, ?_⟩
  cases hk : V.κ l with
  | none => rw [hk] at g3; exact g3
  | some cap =>
    rw [hk] at g3
    obtain ⟨h4, vs, t, h5, h6, h7, h8, h9⟩ := g3
    refine ⟨h4, vs, t, h5, h6, by rw [h0]; exact h7, h1, fun i j c hi hj => ?_⟩
    have hjl : j < cs'.length := (List.getElem?_eq_some_iff.1 hj).1
    obtain ⟨d, hd⟩ : ∃ d, cs[j]? = some d := ⟨_, List.getElem?_eq_getElem (by omega)⟩
    obtain ⟨v, hv, hdv⟩ := h9 i j d hi hd
    have e := congrArg (fun l => l[j]?) (h2 i hi)
    simp only [List.getElem?_map, hj, hd, Option.map_some] at e
    injection e with e
    exact ⟨v, hv, by rw [e]; exact hdv⟩
def Edg.dbl (e : Edg) : Edg := ⟨e.f, e.t, e.w * 2, e.d⟩
def Gr.dblL (g : Gr) (i : Nat) : List Edg := (List.range g.es.length).map fun k => if k < i then (g.ed k).dbl else g.ed k
def Gr.dbl (g : Gr) : Gr := ⟨g.lat, g.dblL g.es.length⟩
abbrev edgCols (l : List Edg) : List Col := [.ints .i64 (l.map (·.f)), .ints .i64 (l.map (·.t)), .ints .i64 (l.map (·.w)), .ints .i64 (l.map (·.d))]
theorem edg_row {l : List Edg} {i : Nat} (hi : i < l.length) : (edgCols l).map (Col.at · i) = (l.getD i default).ds := by
  simp only [edgCols, List.map_cons, List.map_nil, Col.at]
  rw [getD_map' _ _ default _ hi, getD_map' _ _ default _ hi, getD_map' _ _ default _ hi, getD_map' _ _ default _ hi]
theorem dblL_len (g : Gr) (i : Nat) : (g.dblL i).length = g.es.length := by simp [Gr.dblL]
theorem dblL_at (g : Gr) (i : Nat) {k : Nat} (hk : k < g.es.length) : (g.dblL i).getD k default = if k < i then (g.ed k).dbl else g.ed k := by
  rw [getD_lt _ _ (by rw [dblL_len]; exact hk)]
  simp only [Gr.dblL, List.getElem_map, List.getElem_range]
theorem dblL_zero (g : Gr) : g.dblL 0 = g.es := by
  refine List.ext_getElem (dblL_len g 0) fun k h1 h2 => ?_
  simp only [Gr.dblL, List.getElem_map, List.getElem_range]
  rw [if_neg (by omega)]
  exact getD_lt _ _ h2
theorem mapF_dbl {β : Type} (f : Edg → β) (d : β) (g : Gr) {i : Nat} (hi : i < g.es.length) : (g.dblL (i + 1)).map f = ((g.dblL i).map f).set i (f (g.ed i).dbl) := by
  refine List.ext_getElem (by simp [dblL_len]) fun k h1 h2 => ?_
  have hk : k < g.es.length := by simpa [dblL_len] using h1
  rw [List.getElem_set]
  simp only [List.getElem_map, Gr.dblL, List.getElem_range]
  by_cases e : i = k
  · subst e; rw [if_pos (by omega), if_pos rfl]
  · rw [if_neg e]
    by_cases h : k < i
    · rw [if_pos (by omega), if_pos h]
    · rw [if_neg (by omega), if_neg h]
theorem mapF_same {β : Type} (f : Edg → β) (d : β) (g : Gr) (hf : ∀ e : Edg, f e.dbl = f e) (i : Nat) : (g.dblL i).map f = g.es.map f := by
  refine List.ext_getElem (by simp [dblL_len]) fun k h1 h2 => ?_
  simp only [List.getElem_map, Gr.dblL, List.getElem_range]
  have hk : k < g.es.length := by simpa using h2
  have e : g.ed k = g.es[k] := getD_lt _ _ hk
  split
  · rw [hf, e]
  · rw [e]
def twoTo (l : List Int) (i : Nat) : List Int := (List.range i).map fun k => 2 * l.getD k 0
theorem twoTo_len (l : List Int) (i : Nat) : (twoTo l i).length = i := by simp [twoTo]
theorem twoTo_succ (l : List Int) (i : Nat) : twoTo l (i + 1) = twoTo l i ++ [2 * l.getD i 0] := by simp [twoTo, List.range_succ]
theorem twoTo_at (l : List Int) {i k : Nat} (hk : k < i) : fn (twoTo l i) k = 2 * l.getD k 0 := by
  show (twoTo l i).getD k 0 = _
  rw [getD_lt _ _ (by rw [twoTo_len]; exact hk)]
  simp only [twoTo, List.getElem_map, List.getElem_range]
theorem dbl_len (g : Gr) : g.dbl.es.length = g.es.length := dblL_len g _
theorem dbl_ed (g : Gr) {k : Nat} (hk : k < g.es.length) : g.dbl.ed k = (g.ed k).dbl := by
  show (g.dblL g.es.length).getD k default = _
  rw [dblL_at g _ hk, if_pos hk]
theorem dbl_mem {g : Gr} {e : Edg} (h : e ∈ g.dbl.es) : ∃ k, k < g.es.length ∧ e = (g.ed k).dbl := by
  obtain ⟨k, hk, rfl⟩ := List.mem_iff_getElem.1 h
  have hk : k < g.es.length := by rw [← dbl_len]; exact hk
  refine ⟨k, hk, ?_⟩
  rw [← dbl_ed g hk]
  exact (getD_lt _ _ (by rw [dbl_len]; exact hk)).symm
theorem dbl_ok {g : Gr} (h : g.OK) (hw : ∀ k, k < g.es.length → (g.ed k).w * 2 ≤ 64) : g.dbl.OK := by
  refine ⟨h.n, by rw [dbl_len]; exact h.m, h.lat, fun e he => ?_⟩
  obtain ⟨k, hk, rfl⟩ := dbl_mem he
  have a := h.es (g.ed k) (Gr.edge h hk).1
  have b := hw k hk
  show (0 ≤ (g.ed k).f ∧ (g.ed k).f < (g.lat.length : Int)) ∧ (0 ≤ (g.ed k).t ∧ (g.ed k).t < (g.lat.length : Int)) ∧ (0 ≤ (g.ed k).w * 2 ∧ (g.ed k).w * 2 ≤ 64) ∧ 0 ≤ (g.ed k).d ∧ (g.ed k).d ≤ 1048576
  omega
theorem dbl_check {g : Gr} (hC : g.check = 0) (hw : ∀ k, k < g.es.length → (g.ed k).w * 2 ≤ 64) : g.dbl.check = 0 := by
  have hok := g.ok_of (check_formed hC)
  have hd := dbl_ok hok hw
  have hsh := check_short hC
  have hq : Quiet g g.run := by
    rcases run_short hok with ⟨_, _, q⟩ | ⟨_, _, _, q, _⟩
    · exact q
    · rw [hsh] at q; cases q
  have hq2 : Quiet g.dbl g.run := fun e he => by
    obtain ⟨k, hk, rfl⟩ := dbl_mem he
    exact hq (g.ed k) (Gr.edge hok hk).1
  have h1 := quiet_long hd hq2
  have hF : g.dbl.formed = 0 := by
    have := hd.n; have := hd.m
    unfold Gr.formed
    rw [if_neg (by omega), if_pos]
    rw [Bool.and_eq_true, List.all_eq_true, List.all_eq_true]
    refine ⟨fun x hx => decide_eq_true (hd.lat x hx), fun e he => ?_⟩
    have a := hd.es e he
    unfold Edg.ok
    simp only [Bool.and_eq_true, decide_eq_true_eq]
    have hll : g.dbl.lat = g.lat := rfl
    rw [hll] at a ⊢
    omega
  unfold Gr.check Gr.looped
  rw [h1, Bool.and_false]
  exact hF
theorem dbl_flow {g : Gr} (hok : g.OK) (hw : ∀ k, k < g.es.length → (g.ed k).w * 2 ≤ 64) {fl : List Int} (hB : g.flowB fl = true) (hb : ∀ k, k < g.es.length → 2 * fl.getD k 0 ≤ 1048576) : g.dbl.flowB (twoTo fl g.es.length) = true ∧ g.dbl.bnd (twoTo fl g.es.length) g.dbl.es.length = 2 * g.bnd fl g.es.length := by
  obtain ⟨a1, a2, a3⟩ := (flowB_iff hok).1 hB
  have hd := dbl_ok hok hw
  refine ⟨(flowB_iff hd).2 ⟨by rw [twoTo_len, dbl_len], fun k hk => ?_, fun p => ?_⟩, ?_⟩
  · rw [dbl_len] at hk
    rw [twoTo_at fl hk]
    have q1 := a2 k hk
    have q2 := hb k hk
    unfold fn at q1
    omega
  · rw [dbl_len]
    have q := a3 p
    have e1 : sm g.es.length (fun i => fn (twoTo fl g.es.length) i * g.dbl.df p i) = 2 * sm g.es.length (fun i => fn fl i * g.df p i) := by
      rw [Int.two_mul, ← sm_add]
      refine sm_eq fun i hi => ?_
      rw [twoTo_at fl hi]
      have : g.dbl.df p i = g.df p i := by unfold Gr.df; rw [dbl_ed g hi]; rfl
      rw [this, Int.two_mul, Int.add_mul]
    have e2 : sm g.es.length (fun i => (g.dbl.ed i).w * g.dbl.df p i) = 2 * sm g.es.length (fun i => (g.ed i).w * g.df p i) := by
      rw [Int.two_mul, ← sm_add]
      refine sm_eq fun i hi => ?_
      have : g.dbl.df p i = g.df p i := by unfold Gr.df; rw [dbl_ed g hi]; rfl
      rw [this, dbl_ed g hi, ← Int.add_mul]
      show (g.ed i).w * 2 * _ = _
      rw [show (g.ed i).w * 2 = (g.ed i).w + (g.ed i).w by omega]
    rw [e1, e2, q]
  · rw [dbl_len]
    unfold Gr.bnd
    rw [Int.two_mul, ← sm_add]
    refine sm_eq fun i hi => ?_
    rw [twoTo_at fl hi, dbl_ed g hi, ← Int.add_mul]
    show ((g.ed i).w * 2 - 2 * fl.getD i 0) * ((g.ed i).d - g.lat.getD (g.ed i).f.toNat 0) = _
    congr 1
    unfold fn
    omega
theorem few_c {a : Bool} {c : Int} (h : ((bif !a then true else !decide (c = 0)) == false) = true) : c = 0 := by
  cases a with
  | false => cases h
  | true => simpa using h
theorem cat_edg {l : List Edg} {i : Nat} (hi : i < l.length) : (edgCols l).map (Col.at · i) = (catCols [.ds [], .ds [], .ds [], .ds []] (edgCols l)).map (Col.at · i) := by
  simp only [edgCols, catCols, Col.cat, List.nil_append, List.map_cons, List.map_nil, Col.at]
  rw [getD_map' _ (l.map (·.f)) 0 _ (by simpa using hi), getD_map' _ (l.map (·.t)) 0 _ (by simpa using hi), getD_map' _ (l.map (·.w)) 0 _ (by simpa using hi), getD_map' _ (l.map (·.d)) 0 _ (by simpa using hi)]
theorem app4 {n : Nat} {a b d : Col} {l l' : List Int} (h : l = l') : some (Cont.blk (.app 4 n [a, b, .ints .i64 l, d])) = some (Cont.blk (.app 4 n [a, b, .ints .i64 l', d])) := by rw [h]
theorem dbl_sz {g : Gr} (h : g.dbl.OK) : g.dbl.Sz := by
  refine ⟨by have := h.n; omega, by have := h.m; omega, fun x hx => ?_, fun e he => ?_⟩
  · have := h.lat x hx; omega
  · have := h.es e he
    have := h.n
    omega
/-- soundpost/soundpostlaw24.CertifyScaled -/
theorem spec8 (g : Gr) (hz : g.Sz) (flow : List Int) (hf : flow.length ≤ 4611686018427387904) : FnSpec Try.prog 8 [g.av, .d (intsD flow)] [] (bv true) [] [] := by
  have hn1 := hz.n
  have hn2 := hz.m
  refine fnSpec_of (rs := [.tmp 4]) Try.func8 rfl rfl (Nat.le_of_ble_eq_true rfl) (by simp [St.get]) fun E hk hn => ?_
  apply WPA.seq
  apply WPA.region
  · first | apply Trace.boxD 2 [] (.plain rfl) rfl rfl | apply Trace.box 2 [] (.plain rfl) rfl rfl rfl
    apply Trace.pu [] (.assign (.plain rfl))
    exact .nil _
  · exact keepOK_of hk hn rfl
  apply WPA.seq
  apply WPA.seq
  apply WPA.region
  · apply Trace.cu (callArgs0 .nil) spec19 en19
    apply Trace.pu [] (.not (.plain rfl))
    exact .nil _
  · exact keepOK_of hk hn rfl
  refine WPA.cond rfl (fun hc1 => ?_) (fun hc1 => ?_)
  · cases hc1
  · apply WPA.skip
    apply WPA.seq
    apply WPA.seq
    apply WPA.region
    · first | apply Trace.pu [_] (.loadAllD ty25 (.plain rfl) rfl (by simp)) | apply Trace.pu [_] (.loadLocD ty25 (.plain rfl) rfl (fun _ => by simp)) | apply Trace.pu [_] (.loadLoc ty25 (.plain rfl) rfl (fun _ => Nat.le_of_ble_eq_true rfl)) | apply Trace.pu [] (.loadRp ty25 (.plain rfl) (fun _ => by decide)) | apply Trace.pu [] (.loadRp ty25 (.plain rfl) (fun _ => Nat.le_of_ble_eq_true rfl)) | apply Trace.pu [_] (.loadCol ty25 (.plain rfl) rfl rfl (fun _ => by decide) (fun _ => by omega)) | apply Trace.pu [_] (.loadArr ty25 (.plain rfl) rfl)
      apply Trace.cu (callArgs0 (.cons (.plain rfl) .nil)) (spec20 g hz) en20
      apply Trace.pu [] (.not (.plain rfl))
      apply Trace.pu [] (.move (.plain rfl))
      first | apply Trace.pg [_] rfl (.loadAllD ty25 (.plain rfl) rfl (by simp)) | apply Trace.pg [_] rfl (.loadLocD ty25 (.plain rfl) rfl (fun _ => by simp)) | apply Trace.pg [_] rfl (.loadLoc ty25 (.plain rfl) rfl (fun _ => Nat.le_of_ble_eq_true rfl)) | apply Trace.pg [] rfl (.loadRp ty25 (.plain rfl) (fun _ => by decide)) | apply Trace.pg [] rfl (.loadRp ty25 (.plain rfl) (fun _ => Nat.le_of_ble_eq_true rfl)) | apply Trace.pg [_] rfl (.loadCol ty25 (.plain rfl) rfl rfl (fun _ => by decide) (fun _ => by omega)) | apply Trace.pg [_] rfl (.loadArr ty25 (.plain rfl) rfl)
      apply Trace.cg rfl (callArgs0 (.cons (.gd rfl (fun h => h)) .nil)) (fun _ => spec13 g hz) en13
      apply Trace.pg [] rfl (.cmp (.gd rfl (fun h => h)) (.plain rfl) rfl)
      apply Trace.pu [] (.pick (.plain rfl) (.plain rfl) (.gd rfl (by simp)))
      apply Trace.pu [] (.move (.plain rfl))
      first | apply Trace.pg [_] rfl (.loadAllD ty25 (.plain rfl) rfl (by simp)) | apply Trace.pg [_] rfl (.loadLocD ty25 (.plain rfl) rfl (fun _ => by simp)) | apply Trace.pg [_] rfl (.loadLoc ty25 (.plain rfl) rfl (fun _ => Nat.le_of_ble_eq_true rfl)) | apply Trace.pg [] rfl (.loadRp ty25 (.plain rfl) (fun _ => by decide)) | apply Trace.pg [] rfl (.loadRp ty25 (.plain rfl) (fun _ => Nat.le_of_ble_eq_true rfl)) | apply Trace.pg [_] rfl (.loadCol ty25 (.plain rfl) rfl rfl (fun _ => by decide) (fun _ => by omega)) | apply Trace.pg [_] rfl (.loadArr ty25 (.plain rfl) rfl)
      apply Trace.pg [] rfl (.move (.plain rfl))
      apply Trace.cg rfl (callArgs0 (.cons (.gd rfl (fun h => h)) (.cons (.gd rfl (fun h => h)) .nil))) (fun h => spec25 (g.ok_of (check_formed (few_c h))) flow (by omega)) en25
      apply Trace.pg [] rfl (.not (.gd rfl (fun h => h)))
      apply Trace.pu [] (.pick (.plain rfl) (.plain rfl) (.gd rfl (by simp)))
      exact .nil _
    · exact keepOK_of hk hn rfl
    refine WPA.cond rfl (fun hc2 => ?_) (fun hc2 => ?_)
    · apply WPA.seq
      apply WPA.region
      · apply Trace.pu [] (.assign (.plain rfl))
        exact .nil _
      · exact keepOK_of hk hn rfl
      apply WPA.ret
      refine ⟨.inr rfl, ⟨_, (.cons (.tmp rfl) .nil), ?_⟩, by simp [St.get]⟩
      rfl
    · obtain ⟨hfew, hC, hB⟩ : g.few24 = true ∧ g.check = 0 ∧ g.flowB flow = true := by
        have h9 : (bif (bif !g.few24 then true else !decide (g.check = 0)) then true else !g.flowB flow) = false := hc2
        rw [bif_or, bif_or, Bool.or_eq_false_iff, Bool.or_eq_false_iff, Bool.not_eq_false', Bool.not_eq_false', Bool.not_eq_false', decide_eq_true_eq] at h9
        exact ⟨h9.1.1, h9.1.2, h9.2⟩
      have hok := g.ok_of (check_formed hC)
      obtain ⟨_, hm12, _⟩ := few24_tiny hfew
      obtain ⟨a1, a2, _⟩ := (flowB_iff hok).1 hB
      apply WPA.skip
      apply WPA.seq
      apply WPA.region
      · first | apply Trace.pu [_] (.loadAllD ty25 (.plain rfl) rfl (by simp)) | apply Trace.pu [_] (.loadLocD ty25 (.plain rfl) rfl (fun _ => by simp)) | apply Trace.pu [_] (.loadLoc ty25 (.plain rfl) rfl (fun _ => Nat.le_of_ble_eq_true rfl)) | apply Trace.pu [] (.loadRp ty25 (.plain rfl) (fun _ => by decide)) | apply Trace.pu [] (.loadRp ty25 (.plain rfl) (fun _ => Nat.le_of_ble_eq_true rfl)) | apply Trace.pu [_] (.loadCol ty25 (.plain rfl) rfl rfl (fun _ => by decide) (fun _ => by omega)) | apply Trace.pu [_] (.loadArr ty25 (.plain rfl) rfl)
        apply Trace.alloc 5 [] (.data _) zo25 (cellsAs_data _) rfl
        first | apply Trace.storeD ty25 (.plain rfl) (.plain rfl) rfl rfl (by simp) (by simp [AV.oneB, single, intsD, rowsD]) (by simp) (spliceL_all (by simp)) | apply Trace.storeD ty25 (.plain rfl) (.plain rfl) rfl rfl (by simp) (by simp [AV.oneB, single, intsD, rowsD]) (by simp) rfl | apply Trace.storeDA ty25 (.plain rfl) (.plain rfl) rfl rfl (by simp) (by simp [AV.oneB, single]) (by simp) rfl | apply Trace.storeLoc ty25 (.plain rfl) (.plain rfl) rfl rfl (by simp) (by simp [AV.oneB, single]) (by simp) rfl | apply Trace.storeRow ty25 (.plain rfl) (.plain rfl) rfl rfl rfl rfl (by decide) (by simp [AV.oneB, single]) rfl (by omega)
        exact .nil _
      · exact keepOK_of hk hn rfl
      apply WPA.seq
      refine WPA.ghost (Ghost.dataCells (l := 5) (ds := g.ds) rfl rfl) ?_
      apply WPA.region
      · apply Trace.buildSlice 29 [] so23 zo34 rfl (by decide) (by decide) (.nil _ _) rfl rfl rfl
        apply Trace.pu [] (.fieldAddr fl25_1 (.plain rfl) rfl)
        first | apply Trace.pu [_] (.loadLoc1D ty23 (.plain rfl) rfl rfl) | apply Trace.pu [_] (.loadLoc1 ty23 (.plain rfl) rfl rfl) | apply Trace.pu [] (.loadRp1 ty23 (.plain rfl) rfl) | apply Trace.pu [_] (.loadCol1 ty23 (.plain rfl) rfl rfl rfl (fun _ => by omega))
        apply Trace.append 32 [bk 29, sl 29] ap23 kd23 (by decide) (.own (.plain rfl) rfl) (.rows (cs := edgCols g.es) (.plain rfl) rfl (by simp [Col.len]) (fun i hi => (edg_row hi).symm)) (Col.ones rfl) (labs_ok rfl) (by omega) (by omega) rfl rfl
        apply Trace.pu [] (.fieldAddr fl25_1 (.plain rfl) rfl)
        first | apply Trace.storeD ty23 (.plain rfl) (.plain rfl) rfl rfl rfl (by simp [AV.oneB, single]) (Nat.le_of_ble_eq_true rfl) rfl | apply Trace.storeDA ty23 (.plain rfl) (.plain rfl) rfl rfl rfl (by simp [AV.oneB, single]) (Nat.le_of_ble_eq_true rfl) rfl | apply Trace.storeLoc ty23 (.plain rfl) (.plain rfl) rfl rfl rfl (by simp [AV.oneB, single]) (Nat.le_of_ble_eq_true rfl) rfl | apply Trace.storeRow ty23 (.plain rfl) (.plain rfl) rfl rfl rfl rfl (by decide) (by simp [AV.oneB, single]) rfl (by omega)
        exact .nil _
      · exact keepOK_of hk hn rfl
      apply WPA.seq
      refine WPA.ghost (Ghost.recol (l := 32) (cs' := edgCols g.es) rfl rfl (by intro c hc; simp [edgCols] at hc; rcases hc with rfl | rfl | rfl | rfl <;> simp [Col.len]) (fun i hi => cat_edg (by omega))) ?_
      apply WPA.region
      · apply Trace.pu [] (.assign (.plain rfl))
        exact .nil _
      · exact keepOK_of hk hn rfl
      apply WPA.seq
      apply WPA.seq
      refine WPA.ghost (Ghost.ownNil' (t := 6) (l := 90) (cs := [.ints .i64 []]) (n := 1) rfl rfl (by rw [hk]; decide) (by rw [hn]; exact Nat.le_of_ble_eq_true rfl) rfl (by simp [Col.len])) ?_
      apply WPA.region
      · apply Trace.pu [] (.fieldAddr fl25_1 (.plain rfl) rfl)
        first | apply Trace.pu [_] (.loadLoc1D ty23 (.plain rfl) rfl rfl) | apply Trace.pu [_] (.loadLoc1 ty23 (.plain rfl) rfl rfl) | apply Trace.pu [] (.loadRp1 ty23 (.plain rfl) rfl) | apply Trace.pu [_] (.loadCol1 ty23 (.plain rfl) rfl rfl rfl (fun _ => by omega))
        apply Trace.pu [] (.len rfl Try.underlying23 (.plain rfl) rfl)
        apply Trace.pu [] (.move (.plain rfl))
        exact .nil _
      · exact keepOK_of hk hn rfl
      apply WPA.block
      refine WPA.loop (σ := Nat) (fun i => [(sl 1, .av (.d (intsD flow))), (sl 2, .av (.loc 2 0)), (sl 5, .av (.loc 5 0)), (sl 6, .av (.own 90 i)), (sl 36, .av (iv .i64 (g.es.length))), (sl 37, .av (iv .i64 (i))), (bk 2, .blk (.data g.ds)), (bk 5, .blk (.cells [.d (intsD g.lat), .own 32 g.es.length])), (bk 32, .blk (.app 4 g.es.length [.ints .i64 (g.es.map (·.f)), .ints .i64 (g.es.map (·.t)), .ints .i64 ((g.dblL i).map (·.w)), .ints .i64 (g.es.map (·.d))])), (bk 90, .blk (.app 1 i [.ints .i64 (twoTo flow i)]))]) (fun i => i ≤ g.es.length ∧ ∀ j, j < i → (g.ed j).w * 2 ≤ 64 ∧ 2 * flow.getD j 0 ≤ 1048576) (fun i => g.es.length - i) 0
        (St.le_cons rfl (St.le_cons rfl (St.le_cons rfl (St.le_cons rfl (St.le_cons (by rw [show 0 + g.es.length = g.es.length by omega]; rfl) (St.le_cons rfl (St.le_cons rfl (St.le_cons (by rw [show 0 + g.es.length = g.es.length by omega]; rfl) (St.le_cons (by rw [show 0 + g.es.length = g.es.length by omega, dblL_zero]; rfl) (St.le_cons rfl (St.le_nil _))))))))))) ⟨Nat.zero_le _, fun j h => by omega⟩ fun i hi => ?_
      apply WPA.seq
      apply WPA.region
      · apply Trace.pu [] (.cmp (.plain rfl) (.plain rfl) rfl)
        exact .nil _
      · exact keepOK_of hk hn rfl
      apply WPA.seq
      refine WPA.cond rfl (fun hc3 => ?_) (fun hc3 => ?_)
      · have hlt : i < g.es.length := by simpa using hc3
        have hem := Gr.edge_mem hok (e := g.ed i) (Gr.edge hok hlt).1
        have hlw : ((g.dblL i).map (·.w)).length = g.es.length := by simp [dblL_len]
        have hwi : ((g.dblL i).map (·.w)).getD ((i : Nat) : Int).toNat 0 = (g.ed i).w := by
          show ((g.dblL i).map (·.w)).getD i 0 = _
          rw [getD_map' _ _ default _ (by rw [dblL_len]; exact hlt), dblL_at g i hlt, if_neg (by omega)]
        have hfi := a2 i hlt
        have hfi2 : 0 ≤ flow.getD ((i : Nat) : Int).toNat 0 ∧ flow.getD ((i : Nat) : Int).toNat 0 ≤ 1048576 := hfi
        have hms := mapF_dbl (·.w) 0 g hlt
        have hts := twoTo_succ flow i
        have hlw2 : ((g.dblL (i + 1)).map (·.w)).length = g.es.length := by simp [dblL_len]
        have hl2 := twoTo_len flow (i + 1)
        have hv1 : ((g.dblL (i + 1)).map (·.w)).getD i 0 = (g.ed i).w * 2 := by
          rw [getD_map' _ _ default _ (by rw [dblL_len]; exact hlt), dblL_at g (i + 1) hlt, if_pos (by omega)]; rfl
        have hv2 : (twoTo flow (i + 1)).getD i 0 = 2 * flow.getD i 0 := twoTo_at flow (by omega)
        apply WPA.skip
        apply WPA.seq
        apply WPA.block
        apply WPA.seq
        apply WPA.region
        · apply Trace.pu [] (.move (.plain rfl))
          apply Trace.pu [] (.assign (.plain rfl))
          exact .nil _
        · exact keepOK_of hk hn rfl
        apply WPA.seq
        apply WPA.region
        · apply Trace.pu [] (.fieldAddr fl25_1 (.plain rfl) rfl)
          first | apply Trace.pu [_] (.loadLoc1D ty23 (.plain rfl) rfl rfl) | apply Trace.pu [_] (.loadLoc1 ty23 (.plain rfl) rfl rfl) | apply Trace.pu [] (.loadRp1 ty23 (.plain rfl) rfl) | apply Trace.pu [_] (.loadCol1 ty23 (.plain rfl) rfl rfl rfl (fun _ => by omega))
          apply Trace.pu [] (.move (.plain rfl))
          first | apply Trace.pu [] (.indexRows el23 (.plain rfl) (.plain rfl) (fun _ => ⟨by omega, by omega⟩)) | apply Trace.pu [] (.indexOwn el23 (.plain rfl) (.plain rfl) (fun _ => ⟨by omega, by omega⟩)) | apply Trace.pu [] (.indexSl el23 (.plain rfl) (.plain rfl) (fun _ => ⟨by omega, by omega⟩))
          apply Trace.pu [] (.fieldAddr fl34_2 (.plain rfl) rfl)
          first | apply Trace.pu [_] (.loadLoc1D ty3 (.plain rfl) rfl rfl) | apply Trace.pu [_] (.loadLoc1 ty3 (.plain rfl) rfl rfl) | apply Trace.pu [] (.loadRp1 ty3 (.plain rfl) rfl) | apply Trace.pu [_] (.loadCol1 ty3 (.plain rfl) rfl rfl rfl (fun _ => by omega))
          apply Trace.pu [] (.arith (.plain rfl) (.plain rfl) rfl (fun _ => bd64 (by omega)))
          first | apply Trace.pu [] (.indexRows el23 (.plain rfl) (.plain rfl) (fun _ => ⟨by omega, by omega⟩)) | apply Trace.pu [] (.indexOwn el23 (.plain rfl) (.plain rfl) (fun _ => ⟨by omega, by omega⟩)) | apply Trace.pu [] (.indexSl el23 (.plain rfl) (.plain rfl) (fun _ => ⟨by omega, by omega⟩))
          apply Trace.pu [] (.fieldAddr fl34_2 (.plain rfl) rfl)
          first | apply Trace.storeD ty3 (.plain rfl) (.plain rfl) rfl rfl rfl (by simp [AV.oneB, single]) (Nat.le_of_ble_eq_true rfl) rfl | apply Trace.storeDA ty3 (.plain rfl) (.plain rfl) rfl rfl rfl (by simp [AV.oneB, single]) (Nat.le_of_ble_eq_true rfl) rfl | apply Trace.storeLoc ty3 (.plain rfl) (.plain rfl) rfl rfl rfl (by simp [AV.oneB, single]) (Nat.le_of_ble_eq_true rfl) rfl | apply Trace.storeRow ty3 (.plain rfl) (.plain rfl) rfl rfl rfl rfl (by decide) (by simp [AV.oneB, single]) rfl (by omega)
          exact .nil _
        · exact keepOK_of hk hn rfl
        apply WPA.seq
        apply WPA.region
        · apply Trace.pu [] (.move (.plain rfl))
          apply Trace.pu [] (.move (.plain rfl))
          apply Trace.pu [] (.move (.plain rfl))
          first | apply Trace.pu [] (.indexRows el22 (.plain rfl) (.plain rfl) (fun _ => ⟨by omega, by omega⟩)) | apply Trace.pu [] (.indexOwn el22 (.plain rfl) (.plain rfl) (fun _ => ⟨by omega, by omega⟩)) | apply Trace.pu [] (.indexSl el22 (.plain rfl) (.plain rfl) (fun _ => ⟨by omega, by omega⟩))
          first | apply Trace.pu [_] (.loadLoc1D ty3 (.plain rfl) rfl rfl) | apply Trace.pu [_] (.loadLoc1 ty3 (.plain rfl) rfl rfl) | apply Trace.pu [] (.loadRp1 ty3 (.plain rfl) rfl) | apply Trace.pu [_] (.loadCol1 ty3 (.plain rfl) rfl rfl rfl (fun _ => by omega))
          apply Trace.pu [] (.arith (.plain rfl) (.plain rfl) rfl (fun _ => bd64 (by omega)))
          apply Trace.buildSlice 55 [] so22 zo3 rfl (by decide) (by decide) (.cons (.plain rfl) rfl rfl (Nat.le_of_ble_eq_true rfl) (.nil _ _)) rfl rfl rfl
          apply Trace.append 56 [bk 90, bk 55, sl 49, sl 55, sl 6] ap22 kd22 (by decide) (.own (.plain rfl) rfl) (.own (.plain rfl) rfl) (Col.ones rfl) (labs_ok rfl) (by omega) (by omega) rfl rfl
          apply Trace.pu [] (.assign (.plain rfl))
          exact .nil _
        · exact keepOK_of hk hn rfl
        apply WPA.seq
        refine WPA.ghost (Ghost.swap 90 56 (by rw [hk]; decide) (by rw [hk]; decide) rfl) ?_
        refine WPA.weaken (T := [(sl 1, .av (.d (intsD flow))), (sl 2, .av (.loc 2 0)), (sl 5, .av (.loc 5 0)), (sl 6, .av (.own 90 (i + 1))), (sl 36, .av (iv .i64 (g.es.length))), (sl 37, .av (iv .i64 (i))), (bk 2, .blk (.data g.ds)), (bk 5, .blk (.cells [.d (intsD g.lat), .own 32 g.es.length])), (bk 32, .blk (.app 4 g.es.length [.ints .i64 (g.es.map (·.f)), .ints .i64 (g.es.map (·.t)), .ints .i64 ((g.dblL (i + 1)).map (·.w)), .ints .i64 (g.es.map (·.d))])), (bk 90, .blk (.app 1 (i + 1) [.ints .i64 (twoTo flow (i + 1))])), (sl 7, .av (iv .i64 (i)))]) ?_ (St.le_cons rfl (St.le_cons rfl (St.le_cons rfl (St.le_cons rfl (St.le_cons rfl (St.le_cons rfl (St.le_cons rfl (St.le_cons rfl (St.le_cons (app4 (by rw [hms, hwi]; rfl)) (St.le_cons (app_eq64 hts.symm) (St.le_cons rfl (St.le_nil _))))))))))))
        apply WPA.region
        · apply Trace.pu [] (.fieldAddr fl25_1 (.plain rfl) rfl)
          first | apply Trace.pu [_] (.loadLoc1D ty23 (.plain rfl) rfl rfl) | apply Trace.pu [_] (.loadLoc1 ty23 (.plain rfl) rfl rfl) | apply Trace.pu [] (.loadRp1 ty23 (.plain rfl) rfl) | apply Trace.pu [_] (.loadCol1 ty23 (.plain rfl) rfl rfl rfl (fun _ => by omega))
          apply Trace.pu [] (.move (.plain rfl))
          first | apply Trace.pu [] (.indexRows el23 (.plain rfl) (.plain rfl) (fun _ => ⟨by omega, by omega⟩)) | apply Trace.pu [] (.indexOwn el23 (.plain rfl) (.plain rfl) (fun _ => ⟨by omega, by omega⟩)) | apply Trace.pu [] (.indexSl el23 (.plain rfl) (.plain rfl) (fun _ => ⟨by omega, by omega⟩))
          apply Trace.pu [] (.fieldAddr fl34_2 (.plain rfl) rfl)
          first | apply Trace.pu [_] (.loadLoc1D ty3 (.plain rfl) rfl rfl) | apply Trace.pu [_] (.loadLoc1 ty3 (.plain rfl) rfl rfl) | apply Trace.pu [] (.loadRp1 ty3 (.plain rfl) rfl) | apply Trace.pu [_] (.loadCol1 ty3 (.plain rfl) rfl rfl rfl (fun _ => by omega))
          apply Trace.pu [] (.cmp (.plain rfl) (.plain rfl) rfl)
          apply Trace.pu [] (.move (.plain rfl))
          apply Trace.pg [] rfl (.move (.plain rfl))
          apply Trace.pg [] rfl (.move (.plain rfl))
          first | apply Trace.pg [] rfl (.indexRows el22 (.gd rfl (fun h => h)) (.gd rfl (fun h => h)) (fun _ => ⟨by omega, by omega⟩)) | apply Trace.pg [] rfl (.indexOwn el22 (.gd rfl (fun h => h)) (.gd rfl (fun h => h)) (fun _ => ⟨by omega, by omega⟩)) | apply Trace.pg [] rfl (.indexSl el22 (.gd rfl (fun h => h)) (.gd rfl (fun h => h)) (fun _ => ⟨by omega, by omega⟩))
          first | apply Trace.pg [_] rfl (.loadLoc1D ty3 (.gd rfl (fun h => h)) rfl rfl) | apply Trace.pg [_] rfl (.loadLoc1 ty3 (.gd rfl (fun h => h)) rfl rfl) | apply Trace.pg [] rfl (.loadRp1 ty3 (.gd rfl (fun h => h)) rfl) | apply Trace.pg [_] rfl (.loadCol1 ty3 (.gd rfl (fun h => h)) rfl rfl rfl (fun _ => by omega))
          apply Trace.pg [] rfl (.cmp (.gd rfl (fun h => h)) (.plain rfl) rfl)
          apply Trace.pu [] (.pick (.plain rfl) (.plain rfl) (.gd rfl (by simp)))
          exact .nil _
        · exact keepOK_of hk hn rfl
        refine WPA.cond rfl (fun hc4 => ?_) (fun hc4 => ?_)
        · apply WPA.seq
          apply WPA.region
          · apply Trace.pu [] (.assign (.plain rfl))
            exact .nil _
          · exact keepOK_of hk hn rfl
          apply WPA.ret
          refine ⟨.inr rfl, ⟨_, (.cons (.tmp rfl) .nil), ?_⟩, by simp [St.get]⟩
          rfl
        · apply WPA.skip
          apply WPA.region
          · apply Trace.pu [] (.arith (.plain rfl) (.plain rfl) rfl (fun _ => bd64 (by omega)))
            apply Trace.pu [] (.move (.plain rfl))
            exact .nil _
          · exact keepOK_of hk hn rfl
          have hx : (g.ed i).w * 2 ≤ 64 ∧ 2 * flow.getD i 0 ≤ 1048576 := by
            have h9 : (bif decide (64 < ((g.dblL (i + 1)).map (·.w)).getD i 0) then true else decide (1048576 < (twoTo flow (i + 1)).getD i 0)) = false := hc4
            rw [bif_or, Bool.or_eq_false_iff, decide_eq_false_iff_not, decide_eq_false_iff_not, hv1, hv2] at h9
            omega
          exact ⟨i + 1, ⟨by omega, fun j h => by
            by_cases hj : j = i
            · rw [hj]; exact hx
            · exact hi.2 j (by omega)⟩, by omega, St.le_cons rfl (St.le_cons rfl (St.le_cons rfl (St.le_cons rfl (St.le_cons rfl (St.le_cons (slI (by omega)) (St.le_cons rfl (St.le_cons rfl (St.le_cons rfl (St.le_cons rfl (St.le_nil _))))))))))⟩
      · have him : i = g.es.length := by
          have : ¬ ((i : Int) < g.es.length) := by simpa using hc3
          omega
        subst him
        have hw2 : ∀ k, k < g.es.length → (g.ed k).w * 2 ≤ 64 := fun k hk => (hi.2 k hk).1
        have hCd := dbl_check hC hw2
        have hod := dbl_ok hok hw2
        obtain ⟨hBd, hbd⟩ := dbl_flow hok hw2 hB fun k hk => (hi.2 k hk).2
        have hl2 := twoTo_len flow g.es.length
        have hbP : g.boundP flow = (g.bnd flow g.es.length, 0) := by unfold Gr.boundP; rw [if_neg (by rw [hC]; decide), if_pos hB]
        have hbQ : g.dbl.boundP (twoTo flow g.es.length) = (2 * g.bnd flow g.es.length, 0) := by unfold Gr.boundP; rw [if_neg (by rw [hCd]; decide), if_pos hBd, hbd]
        have kA := bnd_bd hok a2 _ (Nat.le_refl _)
        refine WPA.ghost (Ghost.cellFreeze (lb := 5) (j := 1) (l := 32) (g := fun k => (g.dbl.es.getD k default).ds) rfl rfl rfl rfl (fun k hk => by
          have h1 := edg_row (l := g.dbl.es) (i := k) (by rw [dbl_len]; exact hk)
          rw [← h1]
          show _ = (edgCols (g.dblL g.es.length)).map (Col.at · k)
          unfold edgCols
          rw [mapF_same (·.f) 0 g (fun _ => rfl), mapF_same (·.t) 0 g (fun _ => rfl), mapF_same (·.d) 0 g (fun _ => rfl)]) rfl) ?_
        refine WPA.ghost (Ghost.reblk (l := 5) (B' := .data g.dbl.ds) rfl (fun V M w h => by
          have e : g.dbl.ds = [intsD g.lat, .rows 4 g.es.length (fun k => (g.dbl.es.getD k default).ds)] := by show [intsD g.lat, edgesD g.dbl.es] = _; unfold edgesD; rw [dbl_len]
          rw [e]; exact h)) ?_
        refine WPA.ghost (Ghost.freezeAs (t := 6) (l := 90) (g := fun k => [Col.at (.ints .i64 (twoTo flow g.es.length)) k]) rfl rfl (fun k hk => rfl)) ?_
        refine WPA.weaken (T := [(sl 1, .av (.d (intsD flow))), (sl 2, .av (.loc 2 0)), (sl 5, .av (.loc 5 0)), (sl 6, .av (.d (intsD (twoTo flow g.es.length)))), (bk 2, .blk (.data g.ds)), (bk 5, .blk (.data g.dbl.ds))]) ?_ (St.le_cons rfl (St.le_cons rfl (St.le_cons rfl (St.le_cons (d_eq (by rw [intsD, hl2]; rfl)) (St.le_cons rfl (St.le_cons rfl (St.le_nil _)))))))
        apply WPA.exit
        apply WPA.seq
        apply WPA.region
        · first | apply Trace.pu [_] (.loadAllD ty25 (.plain rfl) rfl (by simp)) | apply Trace.pu [_] (.loadLocD ty25 (.plain rfl) rfl (fun _ => by simp)) | apply Trace.pu [_] (.loadLoc ty25 (.plain rfl) rfl (fun _ => Nat.le_of_ble_eq_true rfl)) | apply Trace.pu [] (.loadRp ty25 (.plain rfl) (fun _ => by decide)) | apply Trace.pu [] (.loadRp ty25 (.plain rfl) (fun _ => Nat.le_of_ble_eq_true rfl)) | apply Trace.pu [_] (.loadCol ty25 (.plain rfl) rfl rfl (fun _ => by decide) (fun _ => by omega)) | apply Trace.pu [_] (.loadArr ty25 (.plain rfl) rfl)
          apply Trace.pu [] (.move (.plain rfl))
          apply Trace.ct (callArgs0 (.cons (.plain rfl) (.cons (.plain rfl) .nil))) (boN hz (fl := flow) (by omega) hbP) en16
          apply Trace.pu [] (.move (.plain rfl))
          apply Trace.pu [] (.extract (.plain rfl) rfl)
          apply Trace.pu [] (.extract (.plain rfl) rfl)
          apply Trace.pu [] (.assign (.plain rfl))
          apply Trace.pu [] (.assign (.plain rfl))
          exact .nil _
        · exact keepOK_of hk hn rfl
        apply WPA.seq
        apply WPA.region
        · first | apply Trace.pu [_] (.loadAllD ty25 (.plain rfl) rfl (by simp)) | apply Trace.pu [_] (.loadLocD ty25 (.plain rfl) rfl (fun _ => by simp)) | apply Trace.pu [_] (.loadLoc ty25 (.plain rfl) rfl (fun _ => Nat.le_of_ble_eq_true rfl)) | apply Trace.pu [] (.loadRp ty25 (.plain rfl) (fun _ => by decide)) | apply Trace.pu [] (.loadRp ty25 (.plain rfl) (fun _ => Nat.le_of_ble_eq_true rfl)) | apply Trace.pu [_] (.loadCol ty25 (.plain rfl) rfl rfl (fun _ => by decide) (fun _ => by omega)) | apply Trace.pu [_] (.loadArr ty25 (.plain rfl) rfl)
          apply Trace.pu [] (.move (.plain rfl))
          apply Trace.ct (callArgs0 (.cons (.plain rfl) (.cons (.plain rfl) .nil))) (boN (dbl_sz hod) (fl := twoTo flow g.es.length) (by omega) hbQ) en16
          apply Trace.pu [] (.move (.plain rfl))
          apply Trace.pu [] (.extract (.plain rfl) rfl)
          apply Trace.pu [] (.extract (.plain rfl) rfl)
          apply Trace.pu [] (.assign (.plain rfl))
          apply Trace.pu [] (.assign (.plain rfl))
          exact .nil _
        · exact keepOK_of hk hn rfl
        apply WPA.seq
        apply WPA.region
        · apply Trace.pu [] (.move (.plain rfl))
          apply Trace.pu [] (.cmp (.plain rfl) (.plain rfl) rfl)
          apply Trace.pu [] (.move (.plain rfl))
          apply Trace.pg [] rfl (.move (.plain rfl))
          apply Trace.pg [] rfl (.cmp (.gd rfl (fun h => h)) (.plain rfl) rfl)
          apply Trace.pu [] (.pick (.plain rfl) (.gd rfl (by simp)) (.plain rfl))
          apply Trace.pu [] (.move (.plain rfl))
          apply Trace.pg [] rfl (.move (.plain rfl))
          apply Trace.pg [] rfl (.move (.plain rfl))
          apply Trace.pg [] rfl (.arith (.plain rfl) (.gd rfl (fun h => h)) rfl (fun _ => bd64 (by omega)))
          apply Trace.pg [] rfl (.cmp (.gd rfl (fun h => h)) (.gd rfl (fun h => h)) rfl)
          apply Trace.pu [] (.pick (.plain rfl) (.gd rfl (by simp)) (.plain rfl))
          apply Trace.pu [] (.assign (.plain rfl))
          exact .nil _
        · exact keepOK_of hk hn rfl
        apply WPA.ret
        refine ⟨.inr rfl, ⟨_, (.cons (.tmp rfl) .nil), ?_⟩, by simp [St.get]⟩
        exact congrArg bv (decide_eq_true (rfl : 2 * g.bnd flow g.es.length = 2 * g.bnd flow g.es.length)).symm

end Go.Proofs.Ytcidkahhfdcddaa

