import Derived.Test.YtcidkahhfdcddaaPkD
import Derived.Test.YtcidkahhfdcddaaPkG
/- certify of the reference: Flow, Bound, Check. -/
namespace Go.Proofs.Ytcidkahhfdcddaa
open Go
set_option linter.unusedVariables false
set_option linter.unusedSimpArgs false
set_option maxRecDepth 10000
set_option maxHeartbeats 1000000

def Gr.diffTo (g : Gr) (l : List Int) (v : Int) (i : Nat) : Int := sm i fun k => (if (g.ed k).t = v then l.getD k 0 else 0) - (if (g.ed k).f = v then l.getD k 0 else 0)
theorem diffTo_succ (g : Gr) (l : List Int) (v : Int) (i : Nat) : g.diffTo l v (i + 1) = g.diffTo l v i + ((if (g.ed i).t = v then l.getD i 0 else 0) - (if (g.ed i).f = v then l.getD i 0 else 0)) := rfl
theorem diffTo_bd {g : Gr} {l : List Int} (v : Int) : ∀ i, (∀ j, j < i → 0 ≤ l.getD j 0 ∧ l.getD j 0 ≤ 1048576) → -((i : Int) * 1048576) ≤ g.diffTo l v i ∧ g.diffTo l v i ≤ (i : Int) * 1048576
  | 0, _ => ⟨by show _ ≤ (0 : Int); omega, by show (0 : Int) ≤ _; omega⟩
  | i + 1, h => by
    have ih := diffTo_bd (g := g) v i fun j hj => h j (by omega)
    have b := h i (by omega)
    rw [diffTo_succ]
    split <;> split <;> omega
theorem left_diff {g : Gr} (h : g.OK) (fl : List Int) (v : Nat) : ∀ i, i ≤ g.es.length → (leftTo g fl i).getD v 0 = g.diffTo g.ws v i - g.diffTo fl v i
  | 0, _ => by
    have : (leftTo g fl 0).getD v 0 = 0 := by
      show (List.replicate g.lat.length 0).getD v 0 = 0
      simp only [List.getD_eq_getElem?_getD, List.getElem?_replicate]; split <;> rfl
    rw [this]; rfl
  | i + 1, hi => by
    have ih := left_diff h fl v i (by omega)
    obtain ⟨_, he1, he2, he3, he4⟩ := Gr.edge h (j := i) (by omega)
    have hm := Gr.edge_mem h (e := g.ed i) (Gr.edge h (j := i) (by omega)).1
    have he1 : (g.ed i).f.toNat < g.lat.length := he1
    have he2 : (g.ed i).t.toNat < g.lat.length := he2
    have hf0 : 0 ≤ (g.ed i).f := hm.1
    have ht0 : 0 ≤ (g.ed i).t := hm.2.2.1
    have hl := leftTo_len g fl i
    have hw : g.ws.getD i 0 = (g.ed i).w := ws_at (by omega)
    rw [diffTo_succ, diffTo_succ, hw]
    show (((leftTo g fl i).set (g.ed i).t.toNat ((leftTo g fl i).getD (g.ed i).t.toNat 0 + ((g.ed i).w - fn fl i))).set (g.ed i).f.toNat (((leftTo g fl i).set (g.ed i).t.toNat ((leftTo g fl i).getD (g.ed i).t.toNat 0 + ((g.ed i).w - fn fl i))).getD (g.ed i).f.toNat 0 + (fn fl i - (g.ed i).w))).getD v 0 = _
    rw [getD_set (by simpa using (by omega : (g.ed i).f.toNat < (leftTo g fl i).length)), getD_set (by omega), getD_set (by omega)]
    unfold fn
    have q1 : (g.ed i).t = (v : Int) ↔ (g.ed i).t.toNat = v := by omega
    have q2 : (g.ed i).f = (v : Int) ↔ (g.ed i).f.toNat = v := by omega
    have q3 : (g.ed i).t.toNat = (g.ed i).f.toNat ↔ (g.ed i).t = (g.ed i).f := by omega
    by_cases a : (g.ed i).t = (v : Int) <;> by_cases b : (g.ed i).f = (v : Int)
    · rw [if_pos (q2.1 b), if_pos (show (g.ed i).t.toNat = (g.ed i).f.toNat by omega), if_pos a, if_pos b, if_pos a, if_pos b, q1.1 a, ih]; omega
    · rw [if_neg (fun x => b (q2.2 x)), if_pos (q1.1 a), if_pos a, if_neg b, if_pos a, if_neg b, q1.1 a, ih]; omega
    · rw [if_pos (q2.1 b), if_neg (show ¬ (g.ed i).t.toNat = (g.ed i).f.toNat by omega), if_neg a, if_pos b, if_neg a, if_pos b, q2.1 b, ih]; omega
    · rw [if_neg (fun x => b (q2.2 x)), if_neg (fun x => a (q1.2 x)), if_neg a, if_neg b, if_neg a, if_neg b, ih]; omega
theorem flowB_diff {g : Gr} (h : g.OK) {fl : List Int} : g.flowB fl = true ↔ fl.length = g.es.length ∧ fl.all flOk = true ∧ ∀ v, v < g.lat.length → g.diffTo fl v g.es.length = g.diffTo g.ws v g.es.length := by
  unfold Gr.flowB
  simp only [Bool.and_eq_true, decide_eq_true_eq]
  rw [all_getD (l := leftTo g fl g.es.length), leftTo_len]
  constructor
  · rintro ⟨h1, h2, h3⟩
    refine ⟨h1, h2, fun v hv => ?_⟩
    have := of_decide_eq_true (h3 v hv)
    rw [left_diff h fl v _ (Nat.le_refl _)] at this
    omega
  · rintro ⟨h1, h2, h3⟩
    refine ⟨h1, h2, fun v hv => decide_eq_true ?_⟩
    rw [left_diff h fl v _ (Nat.le_refl _), h3 v hv]; omega
theorem ws_len (g : Gr) : g.ws.length = g.es.length := by simp [Gr.ws]
theorem ws_bd {g : Gr} (h : g.OK) {j : Nat} (hj : j < g.es.length) : 0 ≤ g.ws.getD j 0 ∧ g.ws.getD j 0 ≤ 1048576 := by
  rw [ws_at hj]
  have := Gr.edge_mem h (e := g.ed j) (Gr.edge h hj).1
  omega
/-- soundpost/soundpostref24.differ -/
theorem spec44 {g : Gr} (hok : g.OK) {l : List Int} (hl : l.length = g.es.length) (hb : ∀ j, j < g.es.length → 0 ≤ l.getD j 0 ∧ l.getD j 0 ≤ 1048576) (v : Int) : FnSpec Try.prog 44 [g.av, .d (intsD l), iv .i64 v] [] (iv .i64 (g.diffTo l v g.es.length)) [] [] := by
  have hn1 := hok.n
  have hn2 := hok.m
  refine fnSpec_of (rs := [.tmp 6]) Try.func44 rfl rfl (Nat.le_of_ble_eq_true rfl) (by simp [St.get]) fun E hk hn => ?_
  apply WPA.seq
  apply WPA.region
  · first | apply Trace.boxD 3 [] (.plain rfl) rfl rfl | apply Trace.box 3 [] (.plain rfl) rfl rfl rfl
    apply Trace.pu [] (.assign (.plain rfl))
    exact .nil _
  · exact keepOK_of hk hn rfl
  apply WPA.seq
  apply WPA.region
  · apply Trace.pu [] (.assign (.plain rfl))
    exact .nil _
  · exact keepOK_of hk hn rfl
  apply WPA.seq
  apply WPA.seq
  apply WPA.region
  · apply Trace.pu [] (.assign (.plain rfl))
    exact .nil _
  · exact keepOK_of hk hn rfl
  apply WPA.block
  refine WPA.loop (σ := Nat) (fun i => [(sl 1, .av (.d (intsD l))), (sl 2, .av (iv .i64 (v))), (sl 3, .av (.loc 3 0)), (sl 7, .av (iv .i64 (g.diffTo l v i))), (sl 8, .av (iv .i64 (i))), (bk 3, .blk (.data g.ds))]) (fun i => i ≤ g.es.length) (fun i => g.es.length - i) 0
    (St.le_cons rfl (St.le_cons rfl (St.le_cons rfl (St.le_cons rfl (St.le_cons rfl (St.le_cons rfl (St.le_nil _))))))) (Nat.zero_le _) fun i hi => ?_
  apply WPA.seq
  apply WPA.seq
  apply WPA.region
  · apply Trace.pu [] (.move (.plain rfl))
    apply Trace.pu [] (.fieldAddr fl25_1 (.plain rfl) rfl)
    first | apply Trace.pu [_] (.loadLoc1D ty23 (.plain rfl) rfl rfl) | apply Trace.pu [_] (.loadLoc1 ty23 (.plain rfl) rfl rfl) | apply Trace.pu [] (.loadRp1 ty23 (.plain rfl) rfl) | apply Trace.pu [_] (.loadCol1 ty23 (.plain rfl) rfl rfl rfl (fun _ => by omega))
    apply Trace.pu [] (.len rfl Try.underlying23 (.plain rfl) rfl)
    apply Trace.pu [] (.cmp (.plain rfl) (.plain rfl) rfl)
    exact .nil _
  · exact keepOK_of hk hn rfl
  refine WPA.cond rfl (fun hc1 => ?_) (fun hc1 => ?_)
  · have hlt : i < g.es.length := by simpa using hc1
    obtain ⟨e, he⟩ : ∃ e, g.es.getD i default = e := ⟨_, rfl⟩
    have hem : e ∈ g.es := by rw [← he]; exact (Gr.edge hok hlt).1
    obtain ⟨he1, he2, he3, he4, he5, he6, he7, he8, he9, he10⟩ := Gr.edge_mem hok hem
    have hed : g.ed i = e := he
    have hbi := hb i hlt
    have hbd := diffTo_bd (g := g) v i fun j hj => hb j (by omega)
    have hds := diffTo_succ g l v i
    rw [hed] at hds
    have hbi2 : 0 ≤ l.getD ((i : Nat) : Int).toNat 0 ∧ l.getD ((i : Nat) : Int).toNat 0 ≤ 1048576 := hbi
    have hds2 : l.getD ((i : Nat) : Int).toNat 0 = l.getD i 0 := rfl
    apply WPA.skip
    apply WPA.seq
    apply WPA.block
    apply WPA.seq
    apply WPA.seq
    apply WPA.region
    · apply Trace.pu [] (.fieldAddr fl25_1 (.plain rfl) rfl)
      first | apply Trace.pu [_] (.loadLoc1D ty23 (.plain rfl) rfl rfl) | apply Trace.pu [_] (.loadLoc1 ty23 (.plain rfl) rfl rfl) | apply Trace.pu [] (.loadRp1 ty23 (.plain rfl) rfl) | apply Trace.pu [_] (.loadCol1 ty23 (.plain rfl) rfl rfl rfl (fun _ => by omega))
      apply Trace.pu [] (.move (.plain rfl))
      apply Trace.pu [] ((Pure.indexRows el23 (.plain rfl) (.plain rfl) (fun _ => ⟨by omega, by omega⟩)).to (y := .rp e.ds) (by show AV.rp (g.es.getD i default).ds = _; rw [he]))
      apply Trace.pu [] (.fieldAddr fl34_1 (.plain rfl) rfl)
      first | apply Trace.pu [_] (.loadLoc1D ty3 (.plain rfl) rfl rfl) | apply Trace.pu [_] (.loadLoc1 ty3 (.plain rfl) rfl rfl) | apply Trace.pu [] (.loadRp1 ty3 (.plain rfl) rfl) | apply Trace.pu [_] (.loadCol1 ty3 (.plain rfl) rfl rfl rfl (fun _ => by omega))
      apply Trace.pu [] (.move (.plain rfl))
      apply Trace.pu [] (.cmp (.plain rfl) (.plain rfl) rfl)
      exact .nil _
    · exact keepOK_of hk hn rfl
    refine WPA.cond rfl (fun hc2 => ?_) (fun hc2 => ?_)
    · rw [if_pos (of_decide_eq_true hc2)] at hds
      apply WPA.region
      · apply Trace.pu [] (.move (.plain rfl))
        apply Trace.pu [] (.move (.plain rfl))
        apply Trace.pu [] (.move (.plain rfl))
        first | apply Trace.pu [] (.indexRows el22 (.plain rfl) (.plain rfl) (fun _ => ⟨by omega, by omega⟩)) | apply Trace.pu [] (.indexOwn el22 (.plain rfl) (.plain rfl) (fun _ => ⟨by omega, by omega⟩)) | apply Trace.pu [] (.indexSl el22 (.plain rfl) (.plain rfl) (fun _ => ⟨by omega, by omega⟩))
        first | apply Trace.pu [_] (.loadLoc1D ty3 (.plain rfl) rfl rfl) | apply Trace.pu [_] (.loadLoc1 ty3 (.plain rfl) rfl rfl) | apply Trace.pu [] (.loadRp1 ty3 (.plain rfl) rfl) | apply Trace.pu [_] (.loadCol1 ty3 (.plain rfl) rfl rfl rfl (fun _ => by omega))
        apply Trace.pu [] (.arith (.plain rfl) (.plain rfl) rfl (fun _ => bd64 (by omega)))
        apply Trace.pu [] (.assign (.plain rfl))
        exact .nil _
      · exact keepOK_of hk hn rfl
      apply WPA.seq
      apply WPA.region
      · apply Trace.pu [] (.fieldAddr fl25_1 (.plain rfl) rfl)
        first | apply Trace.pu [_] (.loadLoc1D ty23 (.plain rfl) rfl rfl) | apply Trace.pu [_] (.loadLoc1 ty23 (.plain rfl) rfl rfl) | apply Trace.pu [] (.loadRp1 ty23 (.plain rfl) rfl) | apply Trace.pu [_] (.loadCol1 ty23 (.plain rfl) rfl rfl rfl (fun _ => by omega))
        apply Trace.pu [] (.move (.plain rfl))
        apply Trace.pu [] ((Pure.indexRows el23 (.plain rfl) (.plain rfl) (fun _ => ⟨by omega, by omega⟩)).to (y := .rp e.ds) (by show AV.rp (g.es.getD i default).ds = _; rw [he]))
        apply Trace.pu [] (.fieldAddr fl34_0 (.plain rfl) rfl)
        first | apply Trace.pu [_] (.loadLoc1D ty3 (.plain rfl) rfl rfl) | apply Trace.pu [_] (.loadLoc1 ty3 (.plain rfl) rfl rfl) | apply Trace.pu [] (.loadRp1 ty3 (.plain rfl) rfl) | apply Trace.pu [_] (.loadCol1 ty3 (.plain rfl) rfl rfl rfl (fun _ => by omega))
        apply Trace.pu [] (.move (.plain rfl))
        apply Trace.pu [] (.cmp (.plain rfl) (.plain rfl) rfl)
        exact .nil _
      · exact keepOK_of hk hn rfl
      refine WPA.cond rfl (fun hc3 => ?_) (fun hc3 => ?_)
      · rw [if_pos (of_decide_eq_true hc3)] at hds
        apply WPA.region
        · apply Trace.pu [] (.move (.plain rfl))
          apply Trace.pu [] (.move (.plain rfl))
          apply Trace.pu [] (.move (.plain rfl))
          first | apply Trace.pu [] (.indexRows el22 (.plain rfl) (.plain rfl) (fun _ => ⟨by omega, by omega⟩)) | apply Trace.pu [] (.indexOwn el22 (.plain rfl) (.plain rfl) (fun _ => ⟨by omega, by omega⟩)) | apply Trace.pu [] (.indexSl el22 (.plain rfl) (.plain rfl) (fun _ => ⟨by omega, by omega⟩))
          first | apply Trace.pu [_] (.loadLoc1D ty3 (.plain rfl) rfl rfl) | apply Trace.pu [_] (.loadLoc1 ty3 (.plain rfl) rfl rfl) | apply Trace.pu [] (.loadRp1 ty3 (.plain rfl) rfl) | apply Trace.pu [_] (.loadCol1 ty3 (.plain rfl) rfl rfl rfl (fun _ => by omega))
          apply Trace.pu [] (.arith (.plain rfl) (.plain rfl) rfl (fun _ => bd64 (by omega)))
          apply Trace.pu [] (.assign (.plain rfl))
          exact .nil _
        · exact keepOK_of hk hn rfl
        apply WPA.region
        · apply Trace.pu [] (.move (.plain rfl))
          apply Trace.pu [] (.arith (.plain rfl) (.plain rfl) rfl (fun _ => bd64 (by omega)))
          apply Trace.pu [] (.assign (.plain rfl))
          exact .nil _
        · exact keepOK_of hk hn rfl
        exact ⟨i + 1, by omega, by omega, St.le_cons rfl (St.le_cons rfl (St.le_cons rfl (St.le_cons (slI (by omega)) (St.le_cons (slI (by omega)) (St.le_cons rfl (St.le_nil _))))))⟩
      · rw [if_neg (of_decide_eq_false hc3)] at hds
        apply WPA.skip
        apply WPA.region
        · apply Trace.pu [] (.move (.plain rfl))
          apply Trace.pu [] (.arith (.plain rfl) (.plain rfl) rfl (fun _ => bd64 (by omega)))
          apply Trace.pu [] (.assign (.plain rfl))
          exact .nil _
        · exact keepOK_of hk hn rfl
        exact ⟨i + 1, by omega, by omega, St.le_cons rfl (St.le_cons rfl (St.le_cons rfl (St.le_cons (slI (by omega)) (St.le_cons (slI (by omega)) (St.le_cons rfl (St.le_nil _))))))⟩
    · rw [if_neg (of_decide_eq_false hc2)] at hds
      apply WPA.skip
      apply WPA.seq
      apply WPA.region
      · apply Trace.pu [] (.fieldAddr fl25_1 (.plain rfl) rfl)
        first | apply Trace.pu [_] (.loadLoc1D ty23 (.plain rfl) rfl rfl) | apply Trace.pu [_] (.loadLoc1 ty23 (.plain rfl) rfl rfl) | apply Trace.pu [] (.loadRp1 ty23 (.plain rfl) rfl) | apply Trace.pu [_] (.loadCol1 ty23 (.plain rfl) rfl rfl rfl (fun _ => by omega))
        apply Trace.pu [] (.move (.plain rfl))
        apply Trace.pu [] ((Pure.indexRows el23 (.plain rfl) (.plain rfl) (fun _ => ⟨by omega, by omega⟩)).to (y := .rp e.ds) (by show AV.rp (g.es.getD i default).ds = _; rw [he]))
        apply Trace.pu [] (.fieldAddr fl34_0 (.plain rfl) rfl)
        first | apply Trace.pu [_] (.loadLoc1D ty3 (.plain rfl) rfl rfl) | apply Trace.pu [_] (.loadLoc1 ty3 (.plain rfl) rfl rfl) | apply Trace.pu [] (.loadRp1 ty3 (.plain rfl) rfl) | apply Trace.pu [_] (.loadCol1 ty3 (.plain rfl) rfl rfl rfl (fun _ => by omega))
        apply Trace.pu [] (.move (.plain rfl))
        apply Trace.pu [] (.cmp (.plain rfl) (.plain rfl) rfl)
        exact .nil _
      · exact keepOK_of hk hn rfl
      refine WPA.cond rfl (fun hc4 => ?_) (fun hc4 => ?_)
      · rw [if_pos (of_decide_eq_true hc4)] at hds
        apply WPA.region
        · apply Trace.pu [] (.move (.plain rfl))
          apply Trace.pu [] (.move (.plain rfl))
          apply Trace.pu [] (.move (.plain rfl))
          first | apply Trace.pu [] (.indexRows el22 (.plain rfl) (.plain rfl) (fun _ => ⟨by omega, by omega⟩)) | apply Trace.pu [] (.indexOwn el22 (.plain rfl) (.plain rfl) (fun _ => ⟨by omega, by omega⟩)) | apply Trace.pu [] (.indexSl el22 (.plain rfl) (.plain rfl) (fun _ => ⟨by omega, by omega⟩))
          first | apply Trace.pu [_] (.loadLoc1D ty3 (.plain rfl) rfl rfl) | apply Trace.pu [_] (.loadLoc1 ty3 (.plain rfl) rfl rfl) | apply Trace.pu [] (.loadRp1 ty3 (.plain rfl) rfl) | apply Trace.pu [_] (.loadCol1 ty3 (.plain rfl) rfl rfl rfl (fun _ => by omega))
          apply Trace.pu [] (.arith (.plain rfl) (.plain rfl) rfl (fun _ => bd64 (by omega)))
          apply Trace.pu [] (.assign (.plain rfl))
          exact .nil _
        · exact keepOK_of hk hn rfl
        apply WPA.region
        · apply Trace.pu [] (.move (.plain rfl))
          apply Trace.pu [] (.arith (.plain rfl) (.plain rfl) rfl (fun _ => bd64 (by omega)))
          apply Trace.pu [] (.assign (.plain rfl))
          exact .nil _
        · exact keepOK_of hk hn rfl
        exact ⟨i + 1, by omega, by omega, St.le_cons rfl (St.le_cons rfl (St.le_cons rfl (St.le_cons (slI (by omega)) (St.le_cons (slI (by omega)) (St.le_cons rfl (St.le_nil _))))))⟩
      · rw [if_neg (of_decide_eq_false hc4)] at hds
        apply WPA.skip
        apply WPA.region
        · apply Trace.pu [] (.move (.plain rfl))
          apply Trace.pu [] (.arith (.plain rfl) (.plain rfl) rfl (fun _ => bd64 (by omega)))
          apply Trace.pu [] (.assign (.plain rfl))
          exact .nil _
        · exact keepOK_of hk hn rfl
        exact ⟨i + 1, by omega, by omega, St.le_cons rfl (St.le_cons rfl (St.le_cons rfl (St.le_cons (slI (by omega)) (St.le_cons (slI (by omega)) (St.le_cons rfl (St.le_nil _))))))⟩
  · apply WPA.exit
    apply WPA.seq
    apply WPA.region
    · apply Trace.pu [] (.move (.plain rfl))
      apply Trace.pu [] (.assign (.plain rfl))
      exact .nil _
    · exact keepOK_of hk hn rfl
    apply WPA.ret
    refine ⟨.inr rfl, ⟨_, (.cons (.tmp rfl) .nil), ?_⟩, by simp [St.get]⟩
    have him : i = g.es.length := by
      have : ¬ ((i : Int) < g.es.length) := by simpa using hc1
      omega
    subst him
    rfl

/-- soundpost/soundpostref24.Weights -/
theorem spec24 {g : Gr} (hok : g.OK) : FnSpec Try.prog 24 [g.av] [] (.d (intsD g.ws)) [] [] := by
  have hn1 := hok.n
  have hn2 := hok.m
  refine fnSpec_of (rs := [.tmp 2]) Try.func24 rfl rfl (Nat.le_of_ble_eq_true rfl) (by simp [St.get]) fun E hk hn => ?_
  apply WPA.seq
  apply WPA.region
  · first | apply Trace.boxD 1 [] (.plain rfl) rfl rfl | apply Trace.box 1 [] (.plain rfl) rfl rfl rfl
    apply Trace.pu [] (.assign (.plain rfl))
    exact .nil _
  · exact keepOK_of hk hn rfl
  apply WPA.seq
  apply WPA.region
  · apply Trace.pu [] (.assign (.plain rfl))
    exact .nil _
  · exact keepOK_of hk hn rfl
  apply WPA.seq
  apply WPA.seq
  refine WPA.ghost (Ghost.ownNil' (t := 3) (l := 90) (cs := [.ints .i64 []]) (n := 1) rfl rfl (by rw [hk]; decide) (by rw [hn]; exact Nat.le_of_ble_eq_true rfl) rfl (by simp [Col.len])) ?_
  apply WPA.region
  · apply Trace.pu [] (.assign (.plain rfl))
    exact .nil _
  · exact keepOK_of hk hn rfl
  apply WPA.block
  refine WPA.loop (σ := Nat) (fun i => [(sl 1, .av (.loc 1 0)), (sl 3, .av (.own 90 i)), (sl 4, .av (iv .i64 (i))), (bk 1, .blk (.data g.ds)), (bk 90, .blk (.app 1 i [.ints .i64 (g.wsP i)]))]) (fun i => i ≤ g.es.length) (fun i => g.es.length - i) 0
    (St.le_cons rfl (St.le_cons rfl (St.le_cons rfl (St.le_cons rfl (St.le_cons rfl (St.le_nil _)))))) (Nat.zero_le _) fun i hi => ?_
  apply WPA.seq
  apply WPA.seq
  apply WPA.region
  · apply Trace.pu [] (.move (.plain rfl))
    apply Trace.pu [] (.fieldAddr fl25_1 (.plain rfl) rfl)
    first | apply Trace.pu [_] (.loadLoc1D ty23 (.plain rfl) rfl rfl) | apply Trace.pu [_] (.loadLoc1 ty23 (.plain rfl) rfl rfl) | apply Trace.pu [] (.loadRp1 ty23 (.plain rfl) rfl) | apply Trace.pu [_] (.loadCol1 ty23 (.plain rfl) rfl rfl rfl (fun _ => by omega))
    apply Trace.pu [] (.len rfl Try.underlying23 (.plain rfl) rfl)
    apply Trace.pu [] (.cmp (.plain rfl) (.plain rfl) rfl)
    exact .nil _
  · exact keepOK_of hk hn rfl
  refine WPA.cond rfl (fun hc1 => ?_) (fun hc1 => ?_)
  · have hlt : i < g.es.length := by simpa using hc1
    obtain ⟨e, he⟩ : ∃ e, g.es.getD i default = e := ⟨_, rfl⟩
    have hem : e ∈ g.es := by rw [← he]; exact (Gr.edge hok hlt).1
    obtain ⟨he1, he2, he3, he4, he5, he6, he7, he8, he9, he10⟩ := Gr.edge_mem hok hem
    have hed : g.ed i = e := he
    have hws := wsP_succ g i
    rw [hed] at hws
    apply WPA.skip
    apply WPA.seq
    apply WPA.block
    apply WPA.region
    · apply Trace.pu [] (.move (.plain rfl))
      apply Trace.pu [] (.fieldAddr fl25_1 (.plain rfl) rfl)
      first | apply Trace.pu [_] (.loadLoc1D ty23 (.plain rfl) rfl rfl) | apply Trace.pu [_] (.loadLoc1 ty23 (.plain rfl) rfl rfl) | apply Trace.pu [] (.loadRp1 ty23 (.plain rfl) rfl) | apply Trace.pu [_] (.loadCol1 ty23 (.plain rfl) rfl rfl rfl (fun _ => by omega))
      apply Trace.pu [] (.move (.plain rfl))
      apply Trace.pu [] ((Pure.indexRows el23 (.plain rfl) (.plain rfl) (fun _ => ⟨by omega, by omega⟩)).to (y := .rp e.ds) (by show AV.rp (g.es.getD i default).ds = _; rw [he]))
      apply Trace.pu [] (.fieldAddr fl34_2 (.plain rfl) rfl)
      first | apply Trace.pu [_] (.loadLoc1D ty3 (.plain rfl) rfl rfl) | apply Trace.pu [_] (.loadLoc1 ty3 (.plain rfl) rfl rfl) | apply Trace.pu [] (.loadRp1 ty3 (.plain rfl) rfl) | apply Trace.pu [_] (.loadCol1 ty3 (.plain rfl) rfl rfl rfl (fun _ => by omega))
      apply Trace.buildSlice 19 [] so22 zo3 rfl (by decide) (by decide) (.cons (.plain rfl) rfl rfl (Nat.le_of_ble_eq_true rfl) (.nil _ _)) rfl rfl rfl
      apply Trace.append 20 [bk 90, bk 19, sl 12, sl 19, sl 3] ap22 kd22 (by decide) (.own (.plain rfl) rfl) (.own (.plain rfl) rfl) (Col.ones rfl) (labs_ok rfl) (by omega) (by omega) rfl rfl
      apply Trace.pu [] (.assign (.plain rfl))
      exact .nil _
    · exact keepOK_of hk hn rfl
    refine WPA.ghost (Ghost.swap 90 20 (by rw [hk]; decide) (by rw [hk]; decide) rfl) ?_
    apply WPA.region
    · apply Trace.pu [] (.move (.plain rfl))
      apply Trace.pu [] (.arith (.plain rfl) (.plain rfl) rfl (fun _ => bd64 (by omega)))
      apply Trace.pu [] (.assign (.plain rfl))
      exact .nil _
    · exact keepOK_of hk hn rfl
    exact ⟨i + 1, by omega, by omega, St.le_cons rfl (St.le_cons rfl (St.le_cons (slI (by omega)) (St.le_cons rfl (St.le_cons (app_eq64 hws.symm) (St.le_nil _)))))⟩
  · have him : i = g.es.length := by
      have : ¬ ((i : Int) < g.es.length) := by simpa using hc1
      omega
    subst him
    refine WPA.ghost (Ghost.freezeAs (t := 3) (l := 90) (g := fun k => [Col.at (.ints .i64 (g.wsP g.es.length)) k]) rfl rfl (fun k hk => rfl)) ?_
    refine WPA.weaken (T := [(sl 3, .av (.d (intsD g.ws)))]) ?_ (St.le_cons (d_eq (by rw [← wsP_end g, intsD, show (g.wsP g.es.length).length = g.es.length by simp [Gr.wsP]]; rfl)) (St.le_nil _))
    apply WPA.exit
    apply WPA.seq
    apply WPA.region
    · apply Trace.pu [] (.move (.plain rfl))
      apply Trace.pu [] (.assign (.plain rfl))
      exact .nil _
    · exact keepOK_of hk hn rfl
    apply WPA.ret
    refine ⟨.inr rfl, ⟨_, (.cons (.tmp rfl) .nil), ?_⟩, by simp [St.get]⟩
    rfl

/-- soundpost/soundpostref24.Flow -/
theorem spec25 {g : Gr} (hok : g.OK) (fl : List Int) (hfl : fl.length ≤ 4611686018427387904) : FnSpec Try.prog 25 [g.av, .d (intsD fl)] [] (bv (g.flowB fl)) [] [] := by
  have hn1 := hok.n
  have hn2 := hok.m
  refine fnSpec_of (rs := [.tmp 4]) Try.func25 rfl rfl (Nat.le_of_ble_eq_true rfl) (by simp [St.get]) fun E hk hn => ?_
  apply WPA.seq
  apply WPA.region
  · first | apply Trace.boxD 2 [] (.plain rfl) rfl rfl | apply Trace.box 2 [] (.plain rfl) rfl rfl rfl
    apply Trace.pu [] (.assign (.plain rfl))
    exact .nil _
  · exact keepOK_of hk hn rfl
  apply WPA.seq
  apply WPA.seq
  apply WPA.region
  · apply Trace.pu [] (.move (.plain rfl))
    apply Trace.pu [] (.len rfl Try.underlying22 (.plain rfl) rfl)
    apply Trace.pu [] (.fieldAddr fl25_1 (.plain rfl) rfl)
    first | apply Trace.pu [_] (.loadLoc1D ty23 (.plain rfl) rfl rfl) | apply Trace.pu [_] (.loadLoc1 ty23 (.plain rfl) rfl rfl) | apply Trace.pu [] (.loadRp1 ty23 (.plain rfl) rfl) | apply Trace.pu [_] (.loadCol1 ty23 (.plain rfl) rfl rfl rfl (fun _ => by omega))
    apply Trace.pu [] (.len rfl Try.underlying23 (.plain rfl) rfl)
    apply Trace.pu [] (.cmp (.plain rfl) (.plain rfl) rfl)
    exact .nil _
  · exact keepOK_of hk hn rfl
  refine WPA.cond rfl (fun hc1 => ?_) (fun hc1 => ?_)
  · have hl : ¬ (fl.length = g.es.length) := by
      have : ((fl.length : Int) ≠ g.es.length) := by simpa using hc1
      omega
    have hM : g.flowB fl = false := by unfold Gr.flowB; rw [decide_eq_false hl]; rfl
    apply WPA.seq
    apply WPA.region
    · apply Trace.pu [] (.assign (.plain rfl))
      exact .nil _
    · exact keepOK_of hk hn rfl
    apply WPA.ret
    refine ⟨.inr rfl, ⟨_, (.cons (.tmp rfl) .nil), ?_⟩, by simp [St.get]⟩
    rw [hM]; rfl
  · have hl : fl.length = g.es.length := by
      have : ¬ ((fl.length : Int) ≠ g.es.length) := by simpa using hc1
      omega
    apply WPA.skip
    apply WPA.seq
    apply WPA.seq
    apply WPA.region
    · apply Trace.pu [] (.assign (.plain rfl))
      exact .nil _
    · exact keepOK_of hk hn rfl
    apply WPA.block
    refine WPA.loop (σ := Nat) (fun i => [(sl 1, .av (.d (intsD fl))), (sl 2, .av (.loc 2 0)), (sl 5, .av (iv .i64 (i))), (bk 2, .blk (.data g.ds))]) (fun i => i ≤ fl.length ∧ ∀ j, j < i → flOk (fl.getD j 0) = true) (fun i => fl.length - i) 0
      (St.le_cons rfl (St.le_cons rfl (St.le_cons rfl (St.le_cons rfl (St.le_nil _))))) ⟨Nat.zero_le _, fun j h => by omega⟩ fun i hi => ?_
    apply WPA.seq
    apply WPA.seq
    apply WPA.region
    · apply Trace.pu [] (.move (.plain rfl))
      apply Trace.pu [] (.move (.plain rfl))
      apply Trace.pu [] (.len rfl Try.underlying22 (.plain rfl) rfl)
      apply Trace.pu [] (.cmp (.plain rfl) (.plain rfl) rfl)
      exact .nil _
    · exact keepOK_of hk hn rfl
    refine WPA.cond rfl (fun hc2 => ?_) (fun hc2 => ?_)
    · have hlt : i < fl.length := by simpa using hc2
      apply WPA.skip
      apply WPA.seq
      apply WPA.block
      apply WPA.seq
      apply WPA.region
      · apply Trace.pu [] (.move (.plain rfl))
        apply Trace.pu [] (.move (.plain rfl))
        first | apply Trace.pu [] (.indexRows el22 (.plain rfl) (.plain rfl) (fun _ => ⟨by omega, by omega⟩)) | apply Trace.pu [] (.indexOwn el22 (.plain rfl) (.plain rfl) (fun _ => ⟨by omega, by omega⟩)) | apply Trace.pu [] (.indexSl el22 (.plain rfl) (.plain rfl) (fun _ => ⟨by omega, by omega⟩))
        first | apply Trace.pu [_] (.loadLoc1D ty3 (.plain rfl) rfl rfl) | apply Trace.pu [_] (.loadLoc1 ty3 (.plain rfl) rfl rfl) | apply Trace.pu [] (.loadRp1 ty3 (.plain rfl) rfl) | apply Trace.pu [_] (.loadCol1 ty3 (.plain rfl) rfl rfl rfl (fun _ => by omega))
        apply Trace.pu [] (.cmp (.plain rfl) (.plain rfl) rfl)
        apply Trace.pu [] (.move (.plain rfl))
        apply Trace.pg [] rfl (.move (.plain rfl))
        apply Trace.pg [] rfl (.move (.plain rfl))
        first | apply Trace.pg [] rfl (.indexRows el22 (.gd rfl (fun h => h)) (.gd rfl (fun h => h)) (fun _ => ⟨by omega, by omega⟩)) | apply Trace.pg [] rfl (.indexOwn el22 (.gd rfl (fun h => h)) (.gd rfl (fun h => h)) (fun _ => ⟨by omega, by omega⟩)) | apply Trace.pg [] rfl (.indexSl el22 (.gd rfl (fun h => h)) (.gd rfl (fun h => h)) (fun _ => ⟨by omega, by omega⟩))
        first | apply Trace.pg [_] rfl (.loadLoc1D ty3 (.gd rfl (fun h => h)) rfl rfl) | apply Trace.pg [_] rfl (.loadLoc1 ty3 (.gd rfl (fun h => h)) rfl rfl) | apply Trace.pg [] rfl (.loadRp1 ty3 (.gd rfl (fun h => h)) rfl) | apply Trace.pg [_] rfl (.loadCol1 ty3 (.gd rfl (fun h => h)) rfl rfl rfl (fun _ => by omega))
        apply Trace.pg [] rfl (.cmp (.gd rfl (fun h => h)) (.plain rfl) rfl)
        apply Trace.pu [] (.pick (.plain rfl) (.plain rfl) (.gd rfl (by simp)))
        exact .nil _
      · exact keepOK_of hk hn rfl
      refine WPA.cond rfl (fun hc3 => ?_) (fun hc3 => ?_)
      · have hx : flOk (fl.getD i 0) = false := by
          have h9 : (bif decide (fl.getD i 0 < 0) then true else decide (1048576 < fl.getD i 0)) = true := hc3
          rw [bif_or, Bool.or_eq_true, decide_eq_true_eq, decide_eq_true_eq] at h9
          exact decide_eq_false (by omega)
        have hM : g.flowB fl = false := by
          unfold Gr.flowB
          rw [show fl.all flOk = false from by
            cases h8 : fl.all flOk with
            | false => rfl
            | true => rw [all_getD.1 h8 i (by omega)] at hx; cases hx]
          simp
        apply WPA.seq
        apply WPA.region
        · apply Trace.pu [] (.assign (.plain rfl))
          exact .nil _
        · exact keepOK_of hk hn rfl
        apply WPA.ret
        refine ⟨.inr rfl, ⟨_, (.cons (.tmp rfl) .nil), ?_⟩, by simp [St.get]⟩
        rw [hM]; rfl
      · have hx : flOk (fl.getD i 0) = true := by
          have h9 : (bif decide (fl.getD i 0 < 0) then true else decide (1048576 < fl.getD i 0)) = false := hc3
          rw [bif_or, Bool.or_eq_false_iff, decide_eq_false_iff_not, decide_eq_false_iff_not] at h9
          exact decide_eq_true (by omega)
        apply WPA.skip
        apply WPA.region
        · apply Trace.pu [] (.move (.plain rfl))
          apply Trace.pu [] (.arith (.plain rfl) (.plain rfl) rfl (fun _ => bd64 (by omega)))
          apply Trace.pu [] (.assign (.plain rfl))
          exact .nil _
        · exact keepOK_of hk hn rfl
        exact ⟨i + 1, ⟨by omega, fun j h => by
          by_cases hj : j = i
          · rw [hj]; exact hx
          · exact hi.2 j (by omega)⟩, by omega, St.le_cons rfl (St.le_cons rfl (St.le_cons (slI (by omega)) (St.le_cons rfl (St.le_nil _))))⟩
    · have hall : fl.all flOk = true := all_getD.2 fun j hj => hi.2 j (by
        have : ¬ ((i : Int) < fl.length) := by simpa using hc2
        omega)
      have hbf : ∀ j, j < g.es.length → 0 ≤ fl.getD j 0 ∧ fl.getD j 0 ≤ 1048576 := fun j hj => flOk_iff.1 (all_getD.1 hall j (by omega))
      apply WPA.exit
      apply WPA.seq
      apply WPA.region
      · first | apply Trace.pu [_] (.loadAllD ty25 (.plain rfl) rfl (by simp)) | apply Trace.pu [_] (.loadLocD ty25 (.plain rfl) rfl (fun _ => by simp)) | apply Trace.pu [_] (.loadLoc ty25 (.plain rfl) rfl (fun _ => Nat.le_of_ble_eq_true rfl)) | apply Trace.pu [] (.loadRp ty25 (.plain rfl) (fun _ => by decide)) | apply Trace.pu [] (.loadRp ty25 (.plain rfl) (fun _ => Nat.le_of_ble_eq_true rfl)) | apply Trace.pu [_] (.loadCol ty25 (.plain rfl) rfl rfl (fun _ => by decide) (fun _ => by omega)) | apply Trace.pu [_] (.loadArr ty25 (.plain rfl) rfl)
        apply Trace.cu (callArgs0 (.cons (.plain rfl) .nil)) (spec24 hok) en24
        apply Trace.pu [] (.assign (.plain rfl))
        exact .nil _
      · exact keepOK_of hk hn rfl
      apply WPA.seq
      apply WPA.seq
      apply WPA.region
      · apply Trace.pu [] (.assign (.plain rfl))
        exact .nil _
      · exact keepOK_of hk hn rfl
      apply WPA.block
      refine WPA.loop (σ := Nat) (fun v => [(sl 1, .av (.d (intsD fl))), (sl 2, .av (.loc 2 0)), (sl 6, .av (.d (intsD g.ws))), (sl 7, .av (iv .i64 (v))), (bk 2, .blk (.data g.ds))]) (fun v => v ≤ g.lat.length ∧ ∀ j, j < v → g.diffTo fl j g.es.length = g.diffTo g.ws j g.es.length) (fun v => g.lat.length - v) 0
        (St.le_cons rfl (St.le_cons rfl (St.le_cons rfl (St.le_cons rfl (St.le_cons rfl (St.le_nil _)))))) ⟨Nat.zero_le _, fun j h => by omega⟩ fun v hv => ?_
      apply WPA.seq
      apply WPA.seq
      apply WPA.region
      · apply Trace.pu [] (.move (.plain rfl))
        apply Trace.pu [] (.fieldAddr fl25_0 (.plain rfl) rfl)
        first | apply Trace.pu [_] (.loadLoc1D ty22 (.plain rfl) rfl rfl) | apply Trace.pu [_] (.loadLoc1 ty22 (.plain rfl) rfl rfl) | apply Trace.pu [] (.loadRp1 ty22 (.plain rfl) rfl) | apply Trace.pu [_] (.loadCol1 ty22 (.plain rfl) rfl rfl rfl (fun _ => by omega))
        apply Trace.pu [] (.len rfl Try.underlying22 (.plain rfl) rfl)
        apply Trace.pu [] (.cmp (.plain rfl) (.plain rfl) rfl)
        exact .nil _
      · exact keepOK_of hk hn rfl
      refine WPA.cond rfl (fun hc4 => ?_) (fun hc4 => ?_)
      · have hlv : v < g.lat.length := by simpa using hc4
        apply WPA.skip
        apply WPA.seq
        apply WPA.block
        apply WPA.seq
        apply WPA.draw mixed
        · first | apply Trace.pu [_] (.loadAllD ty25 (.plain rfl) rfl (by simp)) | apply Trace.pu [_] (.loadLocD ty25 (.plain rfl) rfl (fun _ => by simp)) | apply Trace.pu [_] (.loadLoc ty25 (.plain rfl) rfl (fun _ => Nat.le_of_ble_eq_true rfl)) | apply Trace.pu [] (.loadRp ty25 (.plain rfl) (fun _ => by decide)) | apply Trace.pu [] (.loadRp ty25 (.plain rfl) (fun _ => Nat.le_of_ble_eq_true rfl)) | apply Trace.pu [_] (.loadCol ty25 (.plain rfl) rfl rfl (fun _ => by decide) (fun _ => by omega)) | apply Trace.pu [_] (.loadArr ty25 (.plain rfl) rfl)
          apply Trace.pu [] (.move (.plain rfl))
          apply Trace.pu [] (.move (.plain rfl))
          apply Trace.cu (callArgs0 (.cons (.plain rfl) (.cons (.plain rfl) (.cons (.plain rfl) .nil)))) (spec44 hok hl hbf (v : Nat)) en44
          first | apply Trace.pu [_] (.loadAllD ty25 (.plain rfl) rfl (by simp)) | apply Trace.pu [_] (.loadLocD ty25 (.plain rfl) rfl (fun _ => by simp)) | apply Trace.pu [_] (.loadLoc ty25 (.plain rfl) rfl (fun _ => Nat.le_of_ble_eq_true rfl)) | apply Trace.pu [] (.loadRp ty25 (.plain rfl) (fun _ => by decide)) | apply Trace.pu [] (.loadRp ty25 (.plain rfl) (fun _ => Nat.le_of_ble_eq_true rfl)) | apply Trace.pu [_] (.loadCol ty25 (.plain rfl) rfl rfl (fun _ => by decide) (fun _ => by omega)) | apply Trace.pu [_] (.loadArr ty25 (.plain rfl) rfl)
          apply Trace.pu [] (.move (.plain rfl))
          apply Trace.pu [] (.move (.plain rfl))
          apply Trace.cu (callArgs0 (.cons (.plain rfl) (.cons (.plain rfl) (.cons (.plain rfl) .nil)))) (spec44 hok (ws_len g) (fun j hj => ws_bd hok hj) (v : Nat)) en44
          apply Trace.pu [] (.cmp (.plain rfl) (.plain rfl) rfl)
          exact .nil _
        · rfl
        · exact keepOK_of hk hn rfl
        refine WPA.cond rfl (fun hc5 => ?_) (fun hc5 => ?_)
        · have hne : ¬ (g.diffTo fl v g.es.length = g.diffTo g.ws v g.es.length) := by simpa using hc5
          have hM : g.flowB fl = false := by
            cases h8 : g.flowB fl with
            | false => rfl
            | true => exact absurd (((flowB_diff hok).1 h8).2.2 v hlv) hne
          apply WPA.seq
          apply WPA.region
          · apply Trace.pu [] (.assign (.plain rfl))
            exact .nil _
          · exact keepOK_of hk hn rfl
          apply WPA.ret
          refine ⟨.inr rfl, ⟨_, (.cons (.tmp rfl) .nil), ?_⟩, by simp [St.get]⟩
          rw [hM]; rfl
        · have heq : g.diffTo fl v g.es.length = g.diffTo g.ws v g.es.length := by simpa using hc5
          apply WPA.skip
          apply WPA.region
          · apply Trace.pu [] (.move (.plain rfl))
            apply Trace.pu [] (.arith (.plain rfl) (.plain rfl) rfl (fun _ => bd64 (by omega)))
            apply Trace.pu [] (.assign (.plain rfl))
            exact .nil _
          · exact keepOK_of hk hn rfl
          exact ⟨v + 1, ⟨by omega, fun j h => by
            by_cases hj : j = v
            · rw [hj]; exact heq
            · exact hv.2 j (by omega)⟩, by omega, St.le_cons rfl (St.le_cons rfl (St.le_cons rfl (St.le_cons (slI (by omega)) (St.le_cons rfl (St.le_nil _)))))⟩
      · apply WPA.exit
        apply WPA.seq
        apply WPA.region
        · apply Trace.pu [] (.assign (.plain rfl))
          exact .nil _
        · exact keepOK_of hk hn rfl
        apply WPA.ret
        refine ⟨.inr rfl, ⟨_, (.cons (.tmp rfl) .nil), ?_⟩, by simp [St.get]⟩
        have hM : g.flowB fl = true := (flowB_diff hok).2 ⟨hl, hall, fun j hj => hv.2 j (by
          have : ¬ ((v : Int) < g.lat.length) := by simpa using hc4
          omega)⟩
        rw [hM]; rfl

/-- soundpost/soundpostref24.bound -/
theorem spec41 {g : Gr} (hok : g.OK) {fl : List Int} (hl : fl.length = g.es.length) (hb : ∀ i, i < g.es.length → 0 ≤ fn fl i ∧ fn fl i ≤ 1048576) : FnSpec Try.prog 41 [g.av, .d (intsD fl)] [] (iv .i64 (g.bnd fl g.es.length)) [] [] := by
  have hn1 := hok.n
  have hn2 := hok.m
  refine fnSpec_of (rs := [.tmp 4]) Try.func41 rfl rfl (Nat.le_of_ble_eq_true rfl) (by simp [St.get]) fun E hk hn => ?_
  apply WPA.seq
  apply WPA.region
  · first | apply Trace.boxD 2 [] (.plain rfl) rfl rfl | apply Trace.box 2 [] (.plain rfl) rfl rfl rfl
    apply Trace.pu [] (.assign (.plain rfl))
    exact .nil _
  · exact keepOK_of hk hn rfl
  apply WPA.seq
  apply WPA.region
  · apply Trace.pu [] (.assign (.plain rfl))
    exact .nil _
  · exact keepOK_of hk hn rfl
  apply WPA.seq
  apply WPA.seq
  apply WPA.region
  · apply Trace.pu [] (.assign (.plain rfl))
    exact .nil _
  · exact keepOK_of hk hn rfl
  apply WPA.block
  refine WPA.loop (σ := Nat) (fun i => [(sl 1, .av (.d (intsD fl))), (sl 2, .av (.loc 2 0)), (sl 5, .av (iv .i64 (g.bnd fl i))), (sl 6, .av (iv .i64 (i))), (bk 2, .blk (.data g.ds))]) (fun i => i ≤ g.es.length) (fun i => g.es.length - i) 0
    (St.le_cons rfl (St.le_cons rfl (St.le_cons rfl (St.le_cons rfl (St.le_cons rfl (St.le_nil _)))))) (Nat.zero_le _) fun i hi => ?_
  apply WPA.seq
  apply WPA.seq
  apply WPA.region
  · apply Trace.pu [] (.move (.plain rfl))
    apply Trace.pu [] (.move (.plain rfl))
    apply Trace.pu [] (.len rfl Try.underlying22 (.plain rfl) rfl)
    apply Trace.pu [] (.cmp (.plain rfl) (.plain rfl) rfl)
    exact .nil _
  · exact keepOK_of hk hn rfl
  refine WPA.cond rfl (fun hc1 => ?_) (fun hc1 => ?_)
  · have hlt : i < g.es.length := by
      have : ((i : Int) < fl.length) := by simpa using hc1
      omega
    obtain ⟨e, he⟩ : ∃ e, g.es.getD i default = e := ⟨_, rfl⟩
    have hem : e ∈ g.es := by rw [← he]; exact (Gr.edge hok hlt).1
    obtain ⟨he1, he2, he3, he4, he5, he6, he7, he8, he9, he10⟩ := Gr.edge_mem hok hem
    have hed : g.ed i = e := he
    have hbi := hb i hlt
    have hbi2 : 0 ≤ fl.getD ((i : Nat) : Int).toNat 0 ∧ fl.getD ((i : Nat) : Int).toNat 0 ≤ 1048576 := hbi
    have hbb := bnd_bd hok hb i hi
    have hbb2 := bnd_bd hok hb (i + 1) hlt
    have hbt := term_bd hok hb hlt
    rw [bnd_succ, hed] at hbb2
    rw [hed] at hbt
    have hbt2 : -1103806595072 ≤ (e.w - fl.getD ((i : Nat) : Int).toNat 0) * (e.d - g.lat.getD e.f.toNat 0) ∧ (e.w - fl.getD ((i : Nat) : Int).toNat 0) * (e.d - g.lat.getD e.f.toNat 0) ≤ 1103806595072 := hbt
    have hbs := bnd_succ g fl i
    rw [hed] at hbs
    apply WPA.skip
    apply WPA.seq
    apply WPA.block
    apply WPA.seq
    apply WPA.region
    · apply Trace.pu [] (.fieldAddr fl25_1 (.plain rfl) rfl)
      first | apply Trace.pu [_] (.loadLoc1D ty23 (.plain rfl) rfl rfl) | apply Trace.pu [_] (.loadLoc1 ty23 (.plain rfl) rfl rfl) | apply Trace.pu [] (.loadRp1 ty23 (.plain rfl) rfl) | apply Trace.pu [_] (.loadCol1 ty23 (.plain rfl) rfl rfl rfl (fun _ => by omega))
      apply Trace.pu [] (.move (.plain rfl))
      apply Trace.pu [] ((Pure.indexRows el23 (.plain rfl) (.plain rfl) (fun _ => ⟨by omega, by omega⟩)).to (y := .rp e.ds) (by show AV.rp (g.es.getD i default).ds = _; rw [he]))
      first | apply Trace.pu [_] (.loadAllD ty34 (.plain rfl) rfl (by simp)) | apply Trace.pu [_] (.loadLocD ty34 (.plain rfl) rfl (fun _ => by simp)) | apply Trace.pu [_] (.loadLoc ty34 (.plain rfl) rfl (fun _ => Nat.le_of_ble_eq_true rfl)) | apply Trace.pu [] (.loadRp ty34 (.plain rfl) (fun _ => by decide)) | apply Trace.pu [] (.loadRp ty34 (.plain rfl) (fun _ => Nat.le_of_ble_eq_true rfl)) | apply Trace.pu [_] (.loadCol ty34 (.plain rfl) rfl rfl (fun _ => by decide) (fun _ => by omega)) | apply Trace.pu [_] (.loadArr ty34 (.plain rfl) rfl)
      apply Trace.alloc 7 [] (.data _) zo34 (cellsAs_data _) rfl
      first | apply Trace.storeD ty34 (.plain rfl) (.plain rfl) rfl rfl (by simp) (by simp [AV.oneB, single]) (by simp) (spliceL_all (by simp)) | apply Trace.storeD ty34 (.plain rfl) (.plain rfl) rfl rfl (by simp) (by simp [AV.oneB, single]) (by simp) rfl | apply Trace.storeDA ty34 (.plain rfl) (.plain rfl) rfl rfl (by simp) (by simp [AV.oneB, single]) (by simp) rfl | apply Trace.storeLoc ty34 (.plain rfl) (.plain rfl) rfl rfl (by simp) (by simp [AV.oneB, single]) (by simp) rfl | apply Trace.storeRow ty34 (.plain rfl) (.plain rfl) rfl rfl rfl rfl (by decide) (by simp [AV.oneB, single]) rfl (by omega)
      exact .nil _
    · exact keepOK_of hk hn rfl
    apply WPA.draw mixed
    · apply Trace.pu [] (.move (.plain rfl))
      apply Trace.pu [] (.fieldAddr fl34_2 (.plain rfl) rfl)
      first | apply Trace.pu [_] (.loadLoc1D ty3 (.plain rfl) rfl rfl) | apply Trace.pu [_] (.loadLoc1 ty3 (.plain rfl) rfl rfl) | apply Trace.pu [] (.loadRp1 ty3 (.plain rfl) rfl) | apply Trace.pu [_] (.loadCol1 ty3 (.plain rfl) rfl rfl rfl (fun _ => by omega))
      apply Trace.pu [] (.move (.plain rfl))
      apply Trace.pu [] (.move (.plain rfl))
      first | apply Trace.pu [] (.indexRows el22 (.plain rfl) (.plain rfl) (fun _ => ⟨by omega, by omega⟩)) | apply Trace.pu [] (.indexOwn el22 (.plain rfl) (.plain rfl) (fun _ => ⟨by omega, by omega⟩)) | apply Trace.pu [] (.indexSl el22 (.plain rfl) (.plain rfl) (fun _ => ⟨by omega, by omega⟩))
      first | apply Trace.pu [_] (.loadLoc1D ty3 (.plain rfl) rfl rfl) | apply Trace.pu [_] (.loadLoc1 ty3 (.plain rfl) rfl rfl) | apply Trace.pu [] (.loadRp1 ty3 (.plain rfl) rfl) | apply Trace.pu [_] (.loadCol1 ty3 (.plain rfl) rfl rfl rfl (fun _ => by omega))
      apply Trace.pu [] (.arith (.plain rfl) (.plain rfl) rfl (fun _ => bd64 (by omega)))
      apply Trace.pu [] (.fieldAddr fl34_3 (.plain rfl) rfl)
      first | apply Trace.pu [_] (.loadLoc1D ty3 (.plain rfl) rfl rfl) | apply Trace.pu [_] (.loadLoc1 ty3 (.plain rfl) rfl rfl) | apply Trace.pu [] (.loadRp1 ty3 (.plain rfl) rfl) | apply Trace.pu [_] (.loadCol1 ty3 (.plain rfl) rfl rfl rfl (fun _ => by omega))
      apply Trace.pu [] (.fieldAddr fl25_0 (.plain rfl) rfl)
      first | apply Trace.pu [_] (.loadLoc1D ty22 (.plain rfl) rfl rfl) | apply Trace.pu [_] (.loadLoc1 ty22 (.plain rfl) rfl rfl) | apply Trace.pu [] (.loadRp1 ty22 (.plain rfl) rfl) | apply Trace.pu [_] (.loadCol1 ty22 (.plain rfl) rfl rfl rfl (fun _ => by omega))
      apply Trace.pu [] (.fieldAddr fl34_0 (.plain rfl) rfl)
      first | apply Trace.pu [_] (.loadLoc1D ty3 (.plain rfl) rfl rfl) | apply Trace.pu [_] (.loadLoc1 ty3 (.plain rfl) rfl rfl) | apply Trace.pu [] (.loadRp1 ty3 (.plain rfl) rfl) | apply Trace.pu [_] (.loadCol1 ty3 (.plain rfl) rfl rfl rfl (fun _ => by omega))
      first | apply Trace.pu [] (.indexRows el22 (.plain rfl) (.plain rfl) (fun _ => ⟨by omega, by omega⟩)) | apply Trace.pu [] (.indexOwn el22 (.plain rfl) (.plain rfl) (fun _ => ⟨by omega, by omega⟩)) | apply Trace.pu [] (.indexSl el22 (.plain rfl) (.plain rfl) (fun _ => ⟨by omega, by omega⟩))
      first | apply Trace.pu [_] (.loadLoc1D ty3 (.plain rfl) rfl rfl) | apply Trace.pu [_] (.loadLoc1 ty3 (.plain rfl) rfl rfl) | apply Trace.pu [] (.loadRp1 ty3 (.plain rfl) rfl) | apply Trace.pu [_] (.loadCol1 ty3 (.plain rfl) rfl rfl rfl (fun _ => by omega))
      apply Trace.pu [] (.arith (.plain rfl) (.plain rfl) rfl (fun _ => bd64 (by omega)))
      apply Trace.pu [] (.arith (.plain rfl) (.plain rfl) rfl (fun _ => bd64 (by omega)))
      apply Trace.pu [] (.arith (.plain rfl) (.plain rfl) rfl (fun _ => bd64 (by omega)))
      apply Trace.pu [] (.assign (.plain rfl))
      exact .nil _
    · rfl
    · exact keepOK_of hk hn rfl
    apply WPA.region
    · apply Trace.pu [] (.move (.plain rfl))
      apply Trace.pu [] (.arith (.plain rfl) (.plain rfl) rfl (fun _ => bd64 (by omega)))
      apply Trace.pu [] (.assign (.plain rfl))
      exact .nil _
    · exact keepOK_of hk hn rfl
    exact ⟨i + 1, by omega, by omega, St.le_cons rfl (St.le_cons rfl (St.le_cons (slI hbs.symm) (St.le_cons (slI (by omega)) (St.le_cons rfl (St.le_nil _)))))⟩
  · apply WPA.exit
    apply WPA.seq
    apply WPA.region
    · apply Trace.pu [] (.move (.plain rfl))
      apply Trace.pu [] (.assign (.plain rfl))
      exact .nil _
    · exact keepOK_of hk hn rfl
    apply WPA.ret
    refine ⟨.inr rfl, ⟨_, (.cons (.tmp rfl) .nil), ?_⟩, by simp [St.get]⟩
    have him : i = g.es.length := by
      have : ¬ ((i : Int) < fl.length) := by simpa using hc1
      omega
    subst him
    rfl

/-- soundpost/soundpostref24.Bound -/
theorem spec21 (g : Gr) (hz : g.Sz) (fl : List Int) (hfl : fl.length ≤ 4611686018427387904) : FnSpec Try.prog 21 [g.av, .d (intsD fl)] [] (.tup ([.v (.int .i64 (g.boundP fl).1), .v (.int .i64 (g.boundP fl).2)].map .d)) [] [] := by
  have hn1 := hz.n
  have hn2 := hz.m
  refine fnSpec_of (rs := [.tmp 4, .tmp 5]) Try.func21 rfl rfl (Nat.le_of_ble_eq_true rfl) (by simp [St.get]) fun E hk hn => ?_
  apply WPA.seq
  apply WPA.region
  · first | apply Trace.boxD 2 [] (.plain rfl) rfl rfl | apply Trace.box 2 [] (.plain rfl) rfl rfl rfl
    apply Trace.pu [] (.assign (.plain rfl))
    apply Trace.pu [] (.assign (.plain rfl))
    exact .nil _
  · exact keepOK_of hk hn rfl
  apply WPA.seq
  apply WPA.region
  · first | apply Trace.pu [_] (.loadAllD ty25 (.plain rfl) rfl (by simp)) | apply Trace.pu [_] (.loadLocD ty25 (.plain rfl) rfl (fun _ => by simp)) | apply Trace.pu [_] (.loadLoc ty25 (.plain rfl) rfl (fun _ => Nat.le_of_ble_eq_true rfl)) | apply Trace.pu [] (.loadRp ty25 (.plain rfl) (fun _ => by decide)) | apply Trace.pu [] (.loadRp ty25 (.plain rfl) (fun _ => Nat.le_of_ble_eq_true rfl)) | apply Trace.pu [_] (.loadCol ty25 (.plain rfl) rfl rfl (fun _ => by decide) (fun _ => by omega)) | apply Trace.pu [_] (.loadArr ty25 (.plain rfl) rfl)
    apply Trace.cu (callArgs0 (.cons (.plain rfl) .nil)) (spec13 g hz) en13
    apply Trace.pu [] (.assign (.plain rfl))
    exact .nil _
  · exact keepOK_of hk hn rfl
  apply WPA.seq
  apply WPA.seq
  apply WPA.region
  · apply Trace.pu [] (.move (.plain rfl))
    apply Trace.pu [] (.cmp (.plain rfl) (.plain rfl) rfl)
    exact .nil _
  · exact keepOK_of hk hn rfl
  refine WPA.cond rfl (fun hc1 => ?_) (fun hc1 => ?_)
  · have hC : g.check ≠ 0 := by simpa using hc1
    have hM : g.boundP fl = (0, g.check) := by unfold Gr.boundP; rw [if_pos hC]
    apply WPA.seq
    apply WPA.region
    · apply Trace.pu [] (.move (.plain rfl))
      apply Trace.pu [] (.assign (.plain rfl))
      apply Trace.pu [] (.assign (.plain rfl))
      exact .nil _
    · exact keepOK_of hk hn rfl
    apply WPA.ret
    refine ⟨.inr rfl, ⟨_, (.cons (.tmp rfl) (.cons (.tmp rfl) .nil)), ?_⟩, by simp [St.get]⟩
    rw [hM]; rfl
  · have hC : g.check = 0 := by simpa using hc1
    have hok := g.ok_of (check_formed hC)
    apply WPA.skip
    apply WPA.seq
    apply WPA.seq
    apply WPA.region
    · first | apply Trace.pu [_] (.loadAllD ty25 (.plain rfl) rfl (by simp)) | apply Trace.pu [_] (.loadLocD ty25 (.plain rfl) rfl (fun _ => by simp)) | apply Trace.pu [_] (.loadLoc ty25 (.plain rfl) rfl (fun _ => Nat.le_of_ble_eq_true rfl)) | apply Trace.pu [] (.loadRp ty25 (.plain rfl) (fun _ => by decide)) | apply Trace.pu [] (.loadRp ty25 (.plain rfl) (fun _ => Nat.le_of_ble_eq_true rfl)) | apply Trace.pu [_] (.loadCol ty25 (.plain rfl) rfl rfl (fun _ => by decide) (fun _ => by omega)) | apply Trace.pu [_] (.loadArr ty25 (.plain rfl) rfl)
      apply Trace.pu [] (.move (.plain rfl))
      apply Trace.cu (callArgs0 (.cons (.plain rfl) (.cons (.plain rfl) .nil))) (spec25 hok fl hfl) en25
      apply Trace.pu [] (.not (.plain rfl))
      exact .nil _
    · exact keepOK_of hk hn rfl
    refine WPA.cond rfl (fun hc2 => ?_) (fun hc2 => ?_)
    · have hB : ¬ g.flowB fl = true := by simpa using hc2
      have hM : g.boundP fl = (0, 240) := by unfold Gr.boundP; rw [if_neg (by rw [hC]; decide), if_neg hB]
      apply WPA.seq
      apply WPA.region
      · apply Trace.pu [] (.assign (.plain rfl))
        apply Trace.pu [] (.assign (.plain rfl))
        exact .nil _
      · exact keepOK_of hk hn rfl
      apply WPA.ret
      refine ⟨.inr rfl, ⟨_, (.cons (.tmp rfl) (.cons (.tmp rfl) .nil)), ?_⟩, by simp [St.get]⟩
      rw [hM]; rfl
    · have hB : g.flowB fl = true := by simpa using hc2
      obtain ⟨k1, k2, _⟩ := (flowB_iff hok).1 hB
      have hM : g.boundP fl = (g.bnd fl g.es.length, 0) := by unfold Gr.boundP; rw [if_neg (by rw [hC]; decide), if_pos hB]
      apply WPA.skip
      apply WPA.seq
      apply WPA.region
      · first | apply Trace.pu [_] (.loadAllD ty25 (.plain rfl) rfl (by simp)) | apply Trace.pu [_] (.loadLocD ty25 (.plain rfl) rfl (fun _ => by simp)) | apply Trace.pu [_] (.loadLoc ty25 (.plain rfl) rfl (fun _ => Nat.le_of_ble_eq_true rfl)) | apply Trace.pu [] (.loadRp ty25 (.plain rfl) (fun _ => by decide)) | apply Trace.pu [] (.loadRp ty25 (.plain rfl) (fun _ => Nat.le_of_ble_eq_true rfl)) | apply Trace.pu [_] (.loadCol ty25 (.plain rfl) rfl rfl (fun _ => by decide) (fun _ => by omega)) | apply Trace.pu [_] (.loadArr ty25 (.plain rfl) rfl)
        apply Trace.pu [] (.move (.plain rfl))
        apply Trace.cu (callArgs0 (.cons (.plain rfl) (.cons (.plain rfl) .nil))) (spec41 hok k1 k2) en41
        apply Trace.pu [] (.assign (.plain rfl))
        apply Trace.pu [] (.assign (.plain rfl))
        exact .nil _
      · exact keepOK_of hk hn rfl
      apply WPA.ret
      refine ⟨.inr rfl, ⟨_, (.cons (.tmp rfl) (.cons (.tmp rfl) .nil)), ?_⟩, by simp [St.get]⟩
      rw [hM]; rfl

/-- soundpost/soundpostref24.same -/
theorem spec64 (a b : List Int) (ha : a.length ≤ 4611686018427387904) (hb : b.length ≤ 4611686018427387904) : FnSpec Try.prog 64 [.d (intsD a), .d (intsD b)] [] (bv (decide (a = b))) [] [] := by
  refine fnSpec_of (rs := [.tmp 4]) Try.func64 rfl rfl (Nat.le_of_ble_eq_true rfl) (by simp [St.get]) fun E hk hn => ?_
  apply WPA.seq
  apply WPA.region
  · apply Trace.pu [] (.assign (.plain rfl))
    exact .nil _
  · exact keepOK_of hk hn rfl
  apply WPA.seq
  apply WPA.seq
  apply WPA.region
  · apply Trace.pu [] (.move (.plain rfl))
    apply Trace.pu [] (.len rfl Try.underlying22 (.plain rfl) rfl)
    apply Trace.pu [] (.move (.plain rfl))
    apply Trace.pu [] (.len rfl Try.underlying22 (.plain rfl) rfl)
    apply Trace.pu [] (.cmp (.plain rfl) (.plain rfl) rfl)
    exact .nil _
  · exact keepOK_of hk hn rfl
  refine WPA.cond rfl (fun hc1 => ?_) (fun hc1 => ?_)
  · apply WPA.seq
    apply WPA.region
    · apply Trace.pu [] (.assign (.plain rfl))
      exact .nil _
    · exact keepOK_of hk hn rfl
    apply WPA.ret
    refine ⟨.inr rfl, ⟨_, (.cons (.tmp rfl) .nil), ?_⟩, by simp [St.get]⟩
    have hl : a.length ≠ b.length := by
      have : ((a.length : Int) ≠ b.length) := by simpa using hc1
      omega
    rw [decide_eq_false (fun e => hl (congrArg List.length e))]
    rfl
  · have hl : a.length = b.length := by
      have : ¬ ((a.length : Int) ≠ b.length) := by simpa using hc1
      omega
    apply WPA.skip
    apply WPA.seq
    apply WPA.seq
    apply WPA.region
    · apply Trace.pu [] (.assign (.plain rfl))
      exact .nil _
    · exact keepOK_of hk hn rfl
    apply WPA.block
    refine WPA.loop (σ := Nat) (fun i => [(sl 0, .av (.d (intsD a))), (sl 1, .av (.d (intsD b))), (sl 5, .av (iv .i64 (i)))]) (fun i => i ≤ a.length ∧ ∀ j, j < i → a.getD j 0 = b.getD j 0) (fun i => a.length - i) 0
      (St.le_cons rfl (St.le_cons rfl (St.le_cons rfl (St.le_nil _)))) ⟨Nat.zero_le _, fun j h => by omega⟩ fun i hi => ?_
    apply WPA.seq
    apply WPA.seq
    apply WPA.region
    · apply Trace.pu [] (.move (.plain rfl))
      apply Trace.pu [] (.move (.plain rfl))
      apply Trace.pu [] (.len rfl Try.underlying22 (.plain rfl) rfl)
      apply Trace.pu [] (.cmp (.plain rfl) (.plain rfl) rfl)
      exact .nil _
    · exact keepOK_of hk hn rfl
    refine WPA.cond rfl (fun hc2 => ?_) (fun hc2 => ?_)
    · have hlt : i < a.length := by simpa using hc2
      have hbn : b.length = a.length := hl.symm
      apply WPA.skip
      apply WPA.seq
      apply WPA.block
      apply WPA.seq
      apply WPA.draw mixed
      · apply Trace.pu [] (.move (.plain rfl))
        apply Trace.pu [] (.move (.plain rfl))
        first | apply Trace.pu [] (.indexRows el22 (.plain rfl) (.plain rfl) (fun _ => ⟨by omega, by omega⟩)) | apply Trace.pu [] (.indexOwn el22 (.plain rfl) (.plain rfl) (fun _ => ⟨by omega, by omega⟩)) | apply Trace.pu [] (.indexSl el22 (.plain rfl) (.plain rfl) (fun _ => ⟨by omega, by omega⟩))
        first | apply Trace.pu [_] (.loadLoc1D ty3 (.plain rfl) rfl rfl) | apply Trace.pu [_] (.loadLoc1 ty3 (.plain rfl) rfl rfl) | apply Trace.pu [] (.loadRp1 ty3 (.plain rfl) rfl) | apply Trace.pu [_] (.loadCol1 ty3 (.plain rfl) rfl rfl rfl (fun _ => by omega))
        apply Trace.pu [] (.move (.plain rfl))
        apply Trace.pu [] (.move (.plain rfl))
        first | apply Trace.pu [] (.indexRows el22 (.plain rfl) (.plain rfl) (fun _ => ⟨by omega, by omega⟩)) | apply Trace.pu [] (.indexOwn el22 (.plain rfl) (.plain rfl) (fun _ => ⟨by omega, by omega⟩)) | apply Trace.pu [] (.indexSl el22 (.plain rfl) (.plain rfl) (fun _ => ⟨by omega, by omega⟩))
        first | apply Trace.pu [_] (.loadLoc1D ty3 (.plain rfl) rfl rfl) | apply Trace.pu [_] (.loadLoc1 ty3 (.plain rfl) rfl rfl) | apply Trace.pu [] (.loadRp1 ty3 (.plain rfl) rfl) | apply Trace.pu [_] (.loadCol1 ty3 (.plain rfl) rfl rfl rfl (fun _ => by omega))
        apply Trace.pu [] (.cmp (.plain rfl) (.plain rfl) rfl)
        exact .nil _
      · rfl
      · exact keepOK_of hk hn rfl
      refine WPA.cond rfl (fun hc3 => ?_) (fun hc3 => ?_)
      · apply WPA.seq
        apply WPA.region
        · apply Trace.pu [] (.assign (.plain rfl))
          exact .nil _
        · exact keepOK_of hk hn rfl
        apply WPA.ret
        refine ⟨.inr rfl, ⟨_, (.cons (.tmp rfl) .nil), ?_⟩, by simp [St.get]⟩
        have hx : ¬ (a.getD i 0 = b.getD i 0) := by simpa using hc3
        rw [decide_eq_false (fun e => hx (by rw [e]))]
        rfl
      · apply WPA.skip
        apply WPA.region
        · apply Trace.pu [] (.move (.plain rfl))
          apply Trace.pu [] (.arith (.plain rfl) (.plain rfl) rfl (fun _ => bd64 (by omega)))
          apply Trace.pu [] (.assign (.plain rfl))
          exact .nil _
        · exact keepOK_of hk hn rfl
        have hx : a.getD i 0 = b.getD i 0 := by simpa using hc3
        exact ⟨i + 1, ⟨by omega, fun j h => by
          by_cases hj : j = i
          · rw [hj]; exact hx
          · exact hi.2 j (by omega)⟩, by omega, St.le_cons rfl (St.le_cons rfl (St.le_cons (slI (by omega)) (St.le_nil _)))⟩
    · apply WPA.exit
      apply WPA.seq
      apply WPA.region
      · apply Trace.pu [] (.assign (.plain rfl))
        exact .nil _
      · exact keepOK_of hk hn rfl
      apply WPA.ret
      refine ⟨.inr rfl, ⟨_, (.cons (.tmp rfl) .nil), ?_⟩, by simp [St.get]⟩
      have hn : a.length ≤ i := by
        have : ¬ ((i : Int) < a.length) := by simpa using hc2
        omega
      rw [decide_eq_true (eq_fn hl fun j hj => hi.2 j (by omega))]
      rfl

/-- soundpost/soundpostref24.SamePlan -/
theorem spec54 (p q : Pl) (h1 : p.at_.length ≤ 4611686018427387904) (h2 : p.del.length ≤ 4611686018427387904) (h3 : q.at_.length ≤ 4611686018427387904) (h4 : q.del.length ≤ 4611686018427387904) : FnSpec Try.prog 54 [.d p.d, .d q.d] [] (bv (bif (bif decide (p.at_ = q.at_) then decide (p.del = q.del) else false) then decide (p.mem = q.mem) else false)) [] [] := by
  refine fnSpec_of (rs := [.tmp 4]) Try.func54 rfl rfl (Nat.le_of_ble_eq_true rfl) (by simp [St.get]) fun E hk hn => ?_
  apply WPA.seq
  apply WPA.region
  · first | apply Trace.boxD 2 [] (.plain rfl) rfl rfl | apply Trace.box 2 [] (.plain rfl) rfl rfl rfl
    first | apply Trace.boxD 3 [] (.plain rfl) rfl rfl | apply Trace.box 3 [] (.plain rfl) rfl rfl rfl
    apply Trace.pu [] (.assign (.plain rfl))
    exact .nil _
  · exact keepOK_of hk hn rfl
  apply WPA.seq
  apply WPA.region
  · apply Trace.pu [] (.fieldAddr fl28_0 (.plain rfl) rfl)
    first | apply Trace.pu [_] (.loadLoc1D ty22 (.plain rfl) rfl rfl) | apply Trace.pu [_] (.loadLoc1 ty22 (.plain rfl) rfl rfl) | apply Trace.pu [] (.loadRp1 ty22 (.plain rfl) rfl) | apply Trace.pu [_] (.loadCol1 ty22 (.plain rfl) rfl rfl rfl (fun _ => by omega))
    apply Trace.pu [] (.fieldAddr fl28_0 (.plain rfl) rfl)
    first | apply Trace.pu [_] (.loadLoc1D ty22 (.plain rfl) rfl rfl) | apply Trace.pu [_] (.loadLoc1 ty22 (.plain rfl) rfl rfl) | apply Trace.pu [] (.loadRp1 ty22 (.plain rfl) rfl) | apply Trace.pu [_] (.loadCol1 ty22 (.plain rfl) rfl rfl rfl (fun _ => by omega))
    apply Trace.cu (callArgs0 (.cons (.plain rfl) (.cons (.plain rfl) .nil))) (spec64 p.at_ q.at_ h1 h3) en64
    apply Trace.pu [] (.move (.plain rfl))
    apply Trace.pg [] rfl (.fieldAddr fl28_1 (.plain rfl) rfl)
    first | apply Trace.pg [_] rfl (.loadLoc1D ty22 (.gd rfl (fun h => h)) rfl rfl) | apply Trace.pg [_] rfl (.loadLoc1 ty22 (.gd rfl (fun h => h)) rfl rfl) | apply Trace.pg [] rfl (.loadRp1 ty22 (.gd rfl (fun h => h)) rfl) | apply Trace.pg [_] rfl (.loadCol1 ty22 (.gd rfl (fun h => h)) rfl rfl rfl (fun _ => by omega))
    apply Trace.pg [] rfl (.fieldAddr fl28_1 (.plain rfl) rfl)
    first | apply Trace.pg [_] rfl (.loadLoc1D ty22 (.gd rfl (fun h => h)) rfl rfl) | apply Trace.pg [_] rfl (.loadLoc1 ty22 (.gd rfl (fun h => h)) rfl rfl) | apply Trace.pg [] rfl (.loadRp1 ty22 (.gd rfl (fun h => h)) rfl) | apply Trace.pg [_] rfl (.loadCol1 ty22 (.gd rfl (fun h => h)) rfl rfl rfl (fun _ => by omega))
    apply Trace.cg rfl (callArgs0 (.cons (.gd rfl (fun h => h)) (.cons (.gd rfl (fun h => h)) .nil))) (fun _ => spec64 p.del q.del h2 h4) en64
    apply Trace.pu [] (.pick (.plain rfl) (.gd rfl (by simp)) (.plain rfl))
    apply Trace.pu [] (.move (.plain rfl))
    apply Trace.pg [] rfl (.fieldAddr fl28_2 (.plain rfl) rfl)
    first | apply Trace.pg [_] rfl (.loadLoc1D ty3 (.gd rfl (fun h => h)) rfl rfl) | apply Trace.pg [_] rfl (.loadLoc1 ty3 (.gd rfl (fun h => h)) rfl rfl) | apply Trace.pg [] rfl (.loadRp1 ty3 (.gd rfl (fun h => h)) rfl) | apply Trace.pg [_] rfl (.loadCol1 ty3 (.gd rfl (fun h => h)) rfl rfl rfl (fun _ => by omega))
    apply Trace.pg [] rfl (.fieldAddr fl28_2 (.plain rfl) rfl)
    first | apply Trace.pg [_] rfl (.loadLoc1D ty3 (.gd rfl (fun h => h)) rfl rfl) | apply Trace.pg [_] rfl (.loadLoc1 ty3 (.gd rfl (fun h => h)) rfl rfl) | apply Trace.pg [] rfl (.loadRp1 ty3 (.gd rfl (fun h => h)) rfl) | apply Trace.pg [_] rfl (.loadCol1 ty3 (.gd rfl (fun h => h)) rfl rfl rfl (fun _ => by omega))
    apply Trace.pg [] rfl (.cmp (.gd rfl (fun h => h)) (.gd rfl (fun h => h)) rfl)
    apply Trace.pu [] (.pick (.plain rfl) (.gd rfl (by simp)) (.plain rfl))
    apply Trace.pu [] (.assign (.plain rfl))
    exact .nil _
  · exact keepOK_of hk hn rfl
  apply WPA.ret
  refine ⟨.inr rfl, ⟨_, (.cons (.tmp rfl) .nil), ?_⟩, by simp [St.get]⟩
  rfl

theorem memR {g : Gr} (hz : g.Sz) {at_ : List Int} (ha : at_.length ≤ 17592186044416) {p : Pl} {c : Int} (h : g.memory at_ = (p, c)) : FnSpec Try.prog 53 [g.av, .d (intsD at_)] [] (.tup ([p.d, .v (.int .i64 c)].map .d)) [] [] := by
  have := spec53 g hz at_ ha
  rw [h] at this
  exact this
theorem memory_at {g : Gr} {l : List Int} (h : (g.memory l).2 = 0) : (g.memory l).1.at_ = l := by rw [(memory_ok h).2.2]; rfl
theorem memory_atl {g : Gr} {l : List Int} (h : l.length ≤ 4611686018427387904) : (g.memory l).1.at_.length ≤ 4611686018427387904 := by
  by_cases e : (g.memory l).2 = 0
  · rw [memory_at e]; exact h
  · rw [memory_err e]; decide
/-- soundpost/soundpostref24.plan -/
theorem spec42 (g : Gr) (hz : g.Sz) (p : Pl) (hp : p.Sz) : FnSpec Try.prog 42 [g.av, .d p.d] [] (bv (g.isPlan p)) [] [] := by
  have hn1 := hz.n
  have hn2 := hz.m
  have hp1 := hp.a
  have hp2 := hp.d
  refine fnSpec_of (rs := [.tmp 4]) Try.func42 rfl rfl (Nat.le_of_ble_eq_true rfl) (by simp [St.get]) fun E hk hn => ?_
  apply WPA.seq
  apply WPA.region
  · first | apply Trace.boxD 2 [] (.plain rfl) rfl rfl | apply Trace.box 2 [] (.plain rfl) rfl rfl rfl
    first | apply Trace.boxD 3 [] (.plain rfl) rfl rfl | apply Trace.box 3 [] (.plain rfl) rfl rfl rfl
    apply Trace.pu [] (.assign (.plain rfl))
    exact .nil _
  · exact keepOK_of hk hn rfl
  apply WPA.seq
  apply WPA.region
  · first | apply Trace.pu [_] (.loadAllD ty25 (.plain rfl) rfl (by simp)) | apply Trace.pu [_] (.loadLocD ty25 (.plain rfl) rfl (fun _ => by simp)) | apply Trace.pu [_] (.loadLoc ty25 (.plain rfl) rfl (fun _ => Nat.le_of_ble_eq_true rfl)) | apply Trace.pu [] (.loadRp ty25 (.plain rfl) (fun _ => by decide)) | apply Trace.pu [] (.loadRp ty25 (.plain rfl) (fun _ => Nat.le_of_ble_eq_true rfl)) | apply Trace.pu [_] (.loadCol ty25 (.plain rfl) rfl rfl (fun _ => by decide) (fun _ => by omega)) | apply Trace.pu [_] (.loadArr ty25 (.plain rfl) rfl)
    apply Trace.pu [] (.fieldAddr fl28_0 (.plain rfl) rfl)
    first | apply Trace.pu [_] (.loadLoc1D ty22 (.plain rfl) rfl rfl) | apply Trace.pu [_] (.loadLoc1 ty22 (.plain rfl) rfl rfl) | apply Trace.pu [] (.loadRp1 ty22 (.plain rfl) rfl) | apply Trace.pu [_] (.loadCol1 ty22 (.plain rfl) rfl rfl rfl (fun _ => by omega))
    apply Trace.ct (callArgs0 (.cons (.plain rfl) (.cons (.plain rfl) .nil))) (memR hz (at_ := p.at_) hp.a (p := (g.memory p.at_).1) (c := (g.memory p.at_).2) rfl) en53
    apply Trace.pu [] (.move (.plain rfl))
    apply Trace.pu [] (.extract (.plain rfl) rfl)
    apply Trace.pu [] (.extract (.plain rfl) rfl)
    apply Trace.alloc 5 [] (.data _) zo28 (cellsAs_data _) rfl
    first | apply Trace.storeD ty28 (.plain rfl) (.plain rfl) rfl rfl (by simp) (by simp [AV.oneB, single, intsD, rowsD]) (by simp) (spliceL_all (by simp)) | apply Trace.storeD ty28 (.plain rfl) (.plain rfl) rfl rfl (by simp) (by simp [AV.oneB, single, intsD, rowsD]) (by simp) rfl | apply Trace.storeDA ty28 (.plain rfl) (.plain rfl) rfl rfl (by simp) (by simp [AV.oneB, single]) (by simp) rfl | apply Trace.storeLoc ty28 (.plain rfl) (.plain rfl) rfl rfl (by simp) (by simp [AV.oneB, single]) (by simp) rfl | apply Trace.storeRow ty28 (.plain rfl) (.plain rfl) rfl rfl rfl rfl (by decide) (by simp [AV.oneB, single]) rfl (by omega)
    apply Trace.pu [] (.assign (.plain rfl))
    exact .nil _
  · exact keepOK_of hk hn rfl
  apply WPA.seq
  apply WPA.region
  · apply Trace.pu [] (.move (.plain rfl))
    apply Trace.pu [] (.cmp (.plain rfl) (.plain rfl) rfl)
    apply Trace.pu [] (.move (.plain rfl))
    first | apply Trace.pg [_] rfl (.loadAllD ty28 (.plain rfl) rfl (by simp)) | apply Trace.pg [_] rfl (.loadLocD ty28 (.plain rfl) rfl (fun _ => by simp)) | apply Trace.pg [_] rfl (.loadLoc ty28 (.plain rfl) rfl (fun _ => Nat.le_of_ble_eq_true rfl)) | apply Trace.pg [] rfl (.loadRp ty28 (.plain rfl) (fun _ => by decide)) | apply Trace.pg [] rfl (.loadRp ty28 (.plain rfl) (fun _ => Nat.le_of_ble_eq_true rfl)) | apply Trace.pg [_] rfl (.loadCol ty28 (.plain rfl) rfl rfl (fun _ => by decide) (fun _ => by omega)) | apply Trace.pg [_] rfl (.loadArr ty28 (.plain rfl) rfl)
    first | apply Trace.pg [_] rfl (.loadAllD ty28 (.plain rfl) rfl (by simp)) | apply Trace.pg [_] rfl (.loadLocD ty28 (.plain rfl) rfl (fun _ => by simp)) | apply Trace.pg [_] rfl (.loadLoc ty28 (.plain rfl) rfl (fun _ => Nat.le_of_ble_eq_true rfl)) | apply Trace.pg [] rfl (.loadRp ty28 (.plain rfl) (fun _ => by decide)) | apply Trace.pg [] rfl (.loadRp ty28 (.plain rfl) (fun _ => Nat.le_of_ble_eq_true rfl)) | apply Trace.pg [_] rfl (.loadCol ty28 (.plain rfl) rfl rfl (fun _ => by decide) (fun _ => by omega)) | apply Trace.pg [_] rfl (.loadArr ty28 (.plain rfl) rfl)
    apply Trace.cg rfl (callArgs0 (.cons (.gd rfl (fun h => h)) (.cons (.gd rfl (fun h => h)) .nil))) (fun _ => spec54 (g.memory p.at_).1 p (memory_atl (by omega)) (memory_del hz _) (by omega) (by omega)) en54
    apply Trace.pu [] (.pick (.plain rfl) (.gd rfl (by simp)) (.plain rfl))
    apply Trace.pu [] (.assign (.plain rfl))
    exact .nil _
  · exact keepOK_of hk hn rfl
  apply WPA.ret
  refine ⟨.inr rfl, ⟨_, (.cons (.tmp rfl) .nil), ?_⟩, by simp [St.get]⟩
  have e : g.isPlan p = (bif decide ((g.memory p.at_).2 = 0) then (bif (bif decide ((g.memory p.at_).1.at_ = p.at_) then decide ((g.memory p.at_).1.del = p.del) else false) then decide ((g.memory p.at_).1.mem = p.mem) else false) else false) := by
    by_cases h : (g.memory p.at_).2 = 0
    · rw [memory_at h]
      unfold Gr.isPlan
      rw [decide_eq_true h, decide_eq_true (rfl : p.at_ = p.at_)]
      simp only [Bool.true_and, cond_true]
      rw [bif_and]
      congr 1
      · exact decide_eq_decide.2 ⟨Eq.symm, Eq.symm⟩
      · exact decide_eq_decide.2 ⟨Eq.symm, Eq.symm⟩
    · unfold Gr.isPlan
      rw [decide_eq_false h]; rfl
  rw [e]; rfl

/-- soundpost/soundpostref24.Check -/
theorem spec22 (g : Gr) (hz : g.Sz) (p : Pl) (hp : p.Sz) (fl : List Int) (hfl : fl.length ≤ 4611686018427387904) : FnSpec Try.prog 22 [g.av, .d p.d, .d (intsD fl)] [] (.tup ([.v (.bool (g.certP p fl).1), .v (.int .i64 (g.certP p fl).2)].map .d)) [] [] := by
  have hn1 := hz.n
  have hn2 := hz.m
  refine fnSpec_of (rs := [.tmp 6, .tmp 7]) Try.func22 rfl rfl (Nat.le_of_ble_eq_true rfl) (by simp [St.get]) fun E hk hn => ?_
  apply WPA.seq
  apply WPA.region
  · first | apply Trace.boxD 3 [] (.plain rfl) rfl rfl | apply Trace.box 3 [] (.plain rfl) rfl rfl rfl
    first | apply Trace.boxD 4 [] (.plain rfl) rfl rfl | apply Trace.box 4 [] (.plain rfl) rfl rfl rfl
    apply Trace.pu [] (.assign (.plain rfl))
    apply Trace.pu [] (.assign (.plain rfl))
    exact .nil _
  · exact keepOK_of hk hn rfl
  apply WPA.seq
  apply WPA.region
  · first | apply Trace.pu [_] (.loadAllD ty25 (.plain rfl) rfl (by simp)) | apply Trace.pu [_] (.loadLocD ty25 (.plain rfl) rfl (fun _ => by simp)) | apply Trace.pu [_] (.loadLoc ty25 (.plain rfl) rfl (fun _ => Nat.le_of_ble_eq_true rfl)) | apply Trace.pu [] (.loadRp ty25 (.plain rfl) (fun _ => by decide)) | apply Trace.pu [] (.loadRp ty25 (.plain rfl) (fun _ => Nat.le_of_ble_eq_true rfl)) | apply Trace.pu [_] (.loadCol ty25 (.plain rfl) rfl rfl (fun _ => by decide) (fun _ => by omega)) | apply Trace.pu [_] (.loadArr ty25 (.plain rfl) rfl)
    apply Trace.cu (callArgs0 (.cons (.plain rfl) .nil)) (spec13 g hz) en13
    apply Trace.pu [] (.assign (.plain rfl))
    exact .nil _
  · exact keepOK_of hk hn rfl
  apply WPA.seq
  apply WPA.seq
  apply WPA.region
  · apply Trace.pu [] (.move (.plain rfl))
    apply Trace.pu [] (.cmp (.plain rfl) (.plain rfl) rfl)
    exact .nil _
  · exact keepOK_of hk hn rfl
  refine WPA.cond rfl (fun hc1 => ?_) (fun hc1 => ?_)
  · have hC : g.check ≠ 0 := by simpa using hc1
    have hM : g.certP p fl = (false, g.check) := by unfold Gr.certP; rw [if_pos hC]
    apply WPA.seq
    apply WPA.region
    · apply Trace.pu [] (.move (.plain rfl))
      apply Trace.pu [] (.assign (.plain rfl))
      apply Trace.pu [] (.assign (.plain rfl))
      exact .nil _
    · exact keepOK_of hk hn rfl
    apply WPA.ret
    refine ⟨.inr rfl, ⟨_, (.cons (.tmp rfl) (.cons (.tmp rfl) .nil)), ?_⟩, by simp [St.get]⟩
    rw [hM]; rfl
  · have hC : g.check = 0 := by simpa using hc1
    have hok := g.ok_of (check_formed hC)
    apply WPA.skip
    apply WPA.seq
    apply WPA.seq
    apply WPA.region
    · first | apply Trace.pu [_] (.loadAllD ty25 (.plain rfl) rfl (by simp)) | apply Trace.pu [_] (.loadLocD ty25 (.plain rfl) rfl (fun _ => by simp)) | apply Trace.pu [_] (.loadLoc ty25 (.plain rfl) rfl (fun _ => Nat.le_of_ble_eq_true rfl)) | apply Trace.pu [] (.loadRp ty25 (.plain rfl) (fun _ => by decide)) | apply Trace.pu [] (.loadRp ty25 (.plain rfl) (fun _ => Nat.le_of_ble_eq_true rfl)) | apply Trace.pu [_] (.loadCol ty25 (.plain rfl) rfl rfl (fun _ => by decide) (fun _ => by omega)) | apply Trace.pu [_] (.loadArr ty25 (.plain rfl) rfl)
      first | apply Trace.pu [_] (.loadAllD ty28 (.plain rfl) rfl (by simp)) | apply Trace.pu [_] (.loadLocD ty28 (.plain rfl) rfl (fun _ => by simp)) | apply Trace.pu [_] (.loadLoc ty28 (.plain rfl) rfl (fun _ => Nat.le_of_ble_eq_true rfl)) | apply Trace.pu [] (.loadRp ty28 (.plain rfl) (fun _ => by decide)) | apply Trace.pu [] (.loadRp ty28 (.plain rfl) (fun _ => Nat.le_of_ble_eq_true rfl)) | apply Trace.pu [_] (.loadCol ty28 (.plain rfl) rfl rfl (fun _ => by decide) (fun _ => by omega)) | apply Trace.pu [_] (.loadArr ty28 (.plain rfl) rfl)
      apply Trace.cu (callArgs0 (.cons (.plain rfl) (.cons (.plain rfl) .nil))) (spec42 g hz p hp) en42
      apply Trace.pu [] (.not (.plain rfl))
      exact .nil _
    · exact keepOK_of hk hn rfl
    refine WPA.cond rfl (fun hc2 => ?_) (fun hc2 => ?_)
    · have hB : ¬ g.isPlan p = true := by simpa using hc2
      have hM : g.certP p fl = (false, 230) := by unfold Gr.certP; rw [if_neg (by rw [hC]; decide), if_neg hB]
      apply WPA.seq
      apply WPA.region
      · apply Trace.pu [] (.assign (.plain rfl))
        apply Trace.pu [] (.assign (.plain rfl))
        exact .nil _
      · exact keepOK_of hk hn rfl
      apply WPA.ret
      refine ⟨.inr rfl, ⟨_, (.cons (.tmp rfl) (.cons (.tmp rfl) .nil)), ?_⟩, by simp [St.get]⟩
      rw [hM]; rfl
    · have hP : g.isPlan p = true := by simpa using hc2
      apply WPA.skip
      apply WPA.seq
      apply WPA.seq
      apply WPA.region
      · first | apply Trace.pu [_] (.loadAllD ty25 (.plain rfl) rfl (by simp)) | apply Trace.pu [_] (.loadLocD ty25 (.plain rfl) rfl (fun _ => by simp)) | apply Trace.pu [_] (.loadLoc ty25 (.plain rfl) rfl (fun _ => Nat.le_of_ble_eq_true rfl)) | apply Trace.pu [] (.loadRp ty25 (.plain rfl) (fun _ => by decide)) | apply Trace.pu [] (.loadRp ty25 (.plain rfl) (fun _ => Nat.le_of_ble_eq_true rfl)) | apply Trace.pu [_] (.loadCol ty25 (.plain rfl) rfl rfl (fun _ => by decide) (fun _ => by omega)) | apply Trace.pu [_] (.loadArr ty25 (.plain rfl) rfl)
        apply Trace.pu [] (.move (.plain rfl))
        apply Trace.cu (callArgs0 (.cons (.plain rfl) (.cons (.plain rfl) .nil))) (spec25 hok fl hfl) en25
        apply Trace.pu [] (.not (.plain rfl))
        exact .nil _
      · exact keepOK_of hk hn rfl
      refine WPA.cond rfl (fun hc3 => ?_) (fun hc3 => ?_)
      · have hB : ¬ g.flowB fl = true := by simpa using hc3
        have hM : g.certP p fl = (false, 240) := by unfold Gr.certP; rw [if_neg (by rw [hC]; decide), if_pos hP, if_neg hB]
        apply WPA.seq
        apply WPA.region
        · apply Trace.pu [] (.assign (.plain rfl))
          apply Trace.pu [] (.assign (.plain rfl))
          exact .nil _
        · exact keepOK_of hk hn rfl
        apply WPA.ret
        refine ⟨.inr rfl, ⟨_, (.cons (.tmp rfl) (.cons (.tmp rfl) .nil)), ?_⟩, by simp [St.get]⟩
        rw [hM]; rfl
      · have hB : g.flowB fl = true := by simpa using hc3
        obtain ⟨k1, k2, _⟩ := (flowB_iff hok).1 hB
        have hM : g.certP p fl = (decide (g.bnd fl g.es.length = p.mem), 0) := by unfold Gr.certP; rw [if_neg (by rw [hC]; decide), if_pos hP, if_pos hB]
        apply WPA.skip
        apply WPA.seq
        apply WPA.draw mixed
        · first | apply Trace.pu [_] (.loadAllD ty25 (.plain rfl) rfl (by simp)) | apply Trace.pu [_] (.loadLocD ty25 (.plain rfl) rfl (fun _ => by simp)) | apply Trace.pu [_] (.loadLoc ty25 (.plain rfl) rfl (fun _ => Nat.le_of_ble_eq_true rfl)) | apply Trace.pu [] (.loadRp ty25 (.plain rfl) (fun _ => by decide)) | apply Trace.pu [] (.loadRp ty25 (.plain rfl) (fun _ => Nat.le_of_ble_eq_true rfl)) | apply Trace.pu [_] (.loadCol ty25 (.plain rfl) rfl rfl (fun _ => by decide) (fun _ => by omega)) | apply Trace.pu [_] (.loadArr ty25 (.plain rfl) rfl)
          apply Trace.pu [] (.move (.plain rfl))
          apply Trace.cu (callArgs0 (.cons (.plain rfl) (.cons (.plain rfl) .nil))) (spec41 hok k1 k2) en41
          apply Trace.pu [] (.fieldAddr fl28_2 (.plain rfl) rfl)
          first | apply Trace.pu [_] (.loadLoc1D ty3 (.plain rfl) rfl rfl) | apply Trace.pu [_] (.loadLoc1 ty3 (.plain rfl) rfl rfl) | apply Trace.pu [] (.loadRp1 ty3 (.plain rfl) rfl) | apply Trace.pu [_] (.loadCol1 ty3 (.plain rfl) rfl rfl rfl (fun _ => by omega))
          apply Trace.pu [] (.cmp (.plain rfl) (.plain rfl) rfl)
          apply Trace.pu [] (.assign (.plain rfl))
          apply Trace.pu [] (.assign (.plain rfl))
          exact .nil _
        · rfl
        · exact keepOK_of hk hn rfl
        apply WPA.ret
        refine ⟨.inr rfl, ⟨_, (.cons (.tmp rfl) (.cons (.tmp rfl) .nil)), ?_⟩, by simp [St.get]⟩
        rw [hM]; rfl

end Go.Proofs.Ytcidkahhfdcddaa


/- The reference's arcs. -/
namespace Go.Proofs.Ytcidkahhfdcddaa
open Go
set_option linter.unusedVariables false
set_option linter.unusedSimpArgs false
set_option maxRecDepth 10000
set_option maxHeartbeats 1000000

abbrev arcColsN (l : List Arc) : List Col := [.ints .i64 (l.map (·.e)), .ints .i64 (l.map (·.f)), .ints .i64 (l.map (·.t)), .ints .i64 (l.map fun a => -a.by_), .ints .i64 (l.map (·.s))]
abbrev arcsND (l : List Arc) : D := rowsD 5 l.length (arcColsN l)
abbrev Arc.dsN (a : Arc) : List D := [.v (.int .i64 a.e), .v (.int .i64 a.f), .v (.int .i64 a.t), .v (.int .i64 (-a.by_)), .v (.int .i64 a.s)]
theorem arc_rowN {c : List Arc} {i : Nat} (hi : i < c.length) : (arcColsN c).map (Col.at · i) = (c.getD i default).dsN := by
  simp only [arcColsN, List.map_cons, List.map_nil, Col.at]
  rw [mapF hi, mapT hi, mapC hi, mapE hi, mapS hi]
/-- soundpost/soundpostref24.arcs -/
theorem spec55 {g : Gr} (hok : g.OK) {pl : List Int} (hat : AtOK g pl) {M : Int} {fl : List Int} (hfl : fl.length = g.es.length) : FnSpec Try.prog 55 [g.av, .d (.agg [intsD pl, intsD (g.delTo pl g.es.length), .v (.int .i64 M)]), .own 0 g.es.length] [(bk 0, .blk (.app 1 g.es.length [.ints .i64 fl]))] (.d (arcsND (g.arcsToC (fun i => -g.sl (fn pl) i) fl g.es.length))) [(bk 0, .blk (.app 1 g.es.length [.ints .i64 fl]))] [0] := by
  have hn1 := hok.n
  have hn2 := hok.m
  refine fnSpec_of (rs := [.tmp 6]) Try.func55 rfl rfl (Nat.le_of_ble_eq_true rfl) (odd_of rfl) fun E hk hn => ?_
  apply WPA.seq
  apply WPA.region
  · first | apply Trace.boxD 3 [] (.plain rfl) rfl rfl | apply Trace.box 3 [] (.plain rfl) rfl rfl rfl
    first | apply Trace.boxD 4 [] (.plain rfl) rfl rfl | apply Trace.box 4 [] (.plain rfl) rfl rfl rfl
    apply Trace.pu [] (.assign (.plain rfl))
    exact .nil _
  · exact keepOK_of hk hn rfl
  apply WPA.seq
  apply WPA.region
  · apply Trace.pu [] (.assign (.plain rfl))
    exact .nil _
  · exact keepOK_of hk hn rfl
  apply WPA.seq
  apply WPA.seq
  refine WPA.ghost (Ghost.ownNil' (t := 7) (l := 90) (cs := arcColsN []) (n := 5) rfl rfl (by rw [hk]; decide) (by rw [hn]; exact Nat.le_of_ble_eq_true rfl) rfl (by intro c hc; simp [arcColsN] at hc; subst hc; rfl)) ?_
  apply WPA.region
  · apply Trace.pu [] (.assign (.plain rfl))
    exact .nil _
  · exact keepOK_of hk hn rfl
  apply WPA.block
  refine WPA.loop (σ := Nat) (fun i => [(sl 2, .av (.own 0 g.es.length)), (sl 3, .av (.loc 3 0)), (sl 4, .av (.loc 4 0)), (sl 7, .av (.own 90 (g.posC (fun i => -g.sl (fn pl) i) fl i))), (sl 8, .av (iv .i64 (i))), (bk 3, .blk (.data g.ds)), (bk 4, .blk (.data [intsD pl, intsD (g.delTo pl g.es.length), .v (.int .i64 M)])), (bk 0, .blk (.app 1 g.es.length [.ints .i64 fl])), (bk 90, .blk (.app 5 (g.posC (fun i => -g.sl (fn pl) i) fl i) (arcColsN (g.arcsToC (fun i => -g.sl (fn pl) i) fl i))))]) (fun i => i ≤ g.es.length) (fun i => g.es.length - i) 0
    (St.le_cons rfl (St.le_cons rfl (St.le_cons rfl (St.le_cons rfl (St.le_cons rfl (St.le_cons rfl (St.le_cons rfl (St.le_cons rfl (St.le_cons rfl (St.le_nil _)))))))))) (Nat.zero_le _) fun i hi => ?_
  apply WPA.seq
  apply WPA.seq
  apply WPA.region
  · apply Trace.pu [] (.move (.plain rfl))
    apply Trace.pu [] (.move (.plain rfl))
    apply Trace.pu [] (.len rfl Try.underlying22 (.plain rfl) rfl)
    apply Trace.pu [] (.cmp (.plain rfl) (.plain rfl) rfl)
    exact .nil _
  · exact keepOK_of hk hn rfl
  refine WPA.cond rfl (fun hc1 => ?_) (fun hc1 => ?_)
  · have hlt : i < g.es.length := by
      have : ((i : Int) < g.es.length) := by simpa using hc1
      omega
    obtain ⟨e, he⟩ : ∃ e, g.es.getD i default = e := ⟨_, rfl⟩
    have hem : e ∈ g.es := by rw [← he]; exact (Gr.edge hok hlt).1
    obtain ⟨he1, he2, he3, he4, he5, he6, he7, he8, he9, he10⟩ := Gr.edge_mem hok hem
    have hed : g.ed i = e := he
    have hdl : (g.delTo pl g.es.length).getD i 0 = g.sl (fn pl) i := delTo_at g pl hlt
    have hdl2 : (g.delTo pl g.es.length).getD ((i : Nat) : Int).toNat 0 = g.sl (fn pl) i := hdl
    have hdll := delTo_len g pl g.es.length
    have hsb := sl_bd hok hat hlt
    have hpl := pos_le g (fun i => -g.sl (fn pl) i) fl i
    apply WPA.skip
    apply WPA.seq
    apply WPA.block
    apply WPA.seq
    apply WPA.region
    · apply Trace.pu [] (.fieldAddr fl25_1 (.plain rfl) rfl)
      first | apply Trace.pu [_] (.loadLoc1D ty23 (.plain rfl) rfl rfl) | apply Trace.pu [_] (.loadLoc1 ty23 (.plain rfl) rfl rfl) | apply Trace.pu [] (.loadRp1 ty23 (.plain rfl) rfl) | apply Trace.pu [_] (.loadCol1 ty23 (.plain rfl) rfl rfl rfl (fun _ => by omega))
      apply Trace.pu [] (.move (.plain rfl))
      apply Trace.pu [] ((Pure.indexRows el23 (.plain rfl) (.plain rfl) (fun _ => ⟨by omega, by omega⟩)).to (y := .rp e.ds) (by show AV.rp (g.es.getD i default).ds = _; rw [he]))
      first | apply Trace.pu [_] (.loadAllD ty34 (.plain rfl) rfl (by simp)) | apply Trace.pu [_] (.loadLocD ty34 (.plain rfl) rfl (fun _ => by simp)) | apply Trace.pu [_] (.loadLoc ty34 (.plain rfl) rfl (fun _ => Nat.le_of_ble_eq_true rfl)) | apply Trace.pu [] (.loadRp ty34 (.plain rfl) (fun _ => by decide)) | apply Trace.pu [] (.loadRp ty34 (.plain rfl) (fun _ => Nat.le_of_ble_eq_true rfl)) | apply Trace.pu [_] (.loadCol ty34 (.plain rfl) rfl rfl (fun _ => by decide) (fun _ => by omega)) | apply Trace.pu [_] (.loadArr ty34 (.plain rfl) rfl)
      apply Trace.alloc 9 [] (.data _) zo34 (cellsAs_data _) rfl
      first | apply Trace.storeD ty34 (.plain rfl) (.plain rfl) rfl rfl (by simp) (by simp [AV.oneB, single]) (by simp) (spliceL_all (by simp)) | apply Trace.storeD ty34 (.plain rfl) (.plain rfl) rfl rfl (by simp) (by simp [AV.oneB, single]) (by simp) rfl | apply Trace.storeDA ty34 (.plain rfl) (.plain rfl) rfl rfl (by simp) (by simp [AV.oneB, single]) (by simp) rfl | apply Trace.storeLoc ty34 (.plain rfl) (.plain rfl) rfl rfl (by simp) (by simp [AV.oneB, single]) (by simp) rfl | apply Trace.storeRow ty34 (.plain rfl) (.plain rfl) rfl rfl rfl rfl (by decide) (by simp [AV.oneB, single]) rfl (by omega)
      exact .nil _
    · exact keepOK_of hk hn rfl
    apply WPA.seq
    apply WPA.draw mixed
    · apply Trace.pu [] (.move (.plain rfl))
      apply Trace.pu [] (.move (.plain rfl))
      apply Trace.pu [] (.fieldAddr fl34_0 (.plain rfl) rfl)
      first | apply Trace.pu [_] (.loadLoc1D ty3 (.plain rfl) rfl rfl) | apply Trace.pu [_] (.loadLoc1 ty3 (.plain rfl) rfl rfl) | apply Trace.pu [] (.loadRp1 ty3 (.plain rfl) rfl) | apply Trace.pu [_] (.loadCol1 ty3 (.plain rfl) rfl rfl rfl (fun _ => by omega))
      apply Trace.pu [] (.fieldAddr fl34_1 (.plain rfl) rfl)
      first | apply Trace.pu [_] (.loadLoc1D ty3 (.plain rfl) rfl rfl) | apply Trace.pu [_] (.loadLoc1 ty3 (.plain rfl) rfl rfl) | apply Trace.pu [] (.loadRp1 ty3 (.plain rfl) rfl) | apply Trace.pu [_] (.loadCol1 ty3 (.plain rfl) rfl rfl rfl (fun _ => by omega))
      apply Trace.pu [] (.fieldAddr fl28_1 (.plain rfl) rfl)
      first | apply Trace.pu [_] (.loadLoc1D ty22 (.plain rfl) rfl rfl) | apply Trace.pu [_] (.loadLoc1 ty22 (.plain rfl) rfl rfl) | apply Trace.pu [] (.loadRp1 ty22 (.plain rfl) rfl) | apply Trace.pu [_] (.loadCol1 ty22 (.plain rfl) rfl rfl rfl (fun _ => by omega))
      apply Trace.pu [] (.move (.plain rfl))
      first | apply Trace.pu [] (.indexRows el22 (.plain rfl) (.plain rfl) (fun _ => ⟨by omega, by omega⟩)) | apply Trace.pu [] (.indexOwn el22 (.plain rfl) (.plain rfl) (fun _ => ⟨by omega, by omega⟩)) | apply Trace.pu [] (.indexSl el22 (.plain rfl) (.plain rfl) (fun _ => ⟨by omega, by omega⟩))
      apply Trace.pu [] ((Pure.loadRp1 ty3 (.plain rfl) rfl).to (y := iv .i64 (g.sl (fn pl) i)) (congrArg (iv .i64) hdl))
      apply Trace.pu [] (.build zo85 pl85 (.cons (.plain rfl) rfl rfl (Nat.le_of_ble_eq_true rfl) (.cons (.plain rfl) rfl rfl (Nat.le_of_ble_eq_true rfl) (.cons (.plain rfl) rfl rfl (Nat.le_of_ble_eq_true rfl) (.cons (.plain rfl) rfl rfl (Nat.le_of_ble_eq_true rfl) (.cons (.plain rfl) rfl rfl (Nat.le_of_ble_eq_true rfl) (.nil _ _)))))) rfl)
      apply Trace.buildSlice 33 [] so81 zo85 rfl (by decide) (by decide) (.cons (.plain rfl) rfl rfl (Nat.le_of_ble_eq_true rfl) (.nil _ _)) rfl rfl rfl
      apply Trace.append 34 [bk 90, bk 33, sl 21, sl 33, sl 7] ap81 kd81 (by decide) (.own (.plain rfl) rfl) (.own (.plain rfl) rfl) (Col.ones rfl) (labs_ok rfl) (by omega) (by omega) rfl rfl
      apply Trace.pu [] (.assign (.plain rfl))
      exact .nil _
    · rfl
    · exact keepOK_of hk hn rfl
    apply WPA.seq
    refine WPA.weaken (T := [(sl 2, .av (.own 0 g.es.length)), (sl 3, .av (.loc 3 0)), (sl 4, .av (.loc 4 0)), (sl 7, _), (sl 8, .av (iv .i64 (i))), (sl 9, .av (.loc 9 0)), (bk 3, .blk (.data g.ds)), (bk 4, .blk (.data [intsD pl, intsD (g.delTo pl g.es.length), .v (.int .i64 M)])), (bk 0, .blk (.app 1 g.es.length [.ints .i64 fl])), (bk 9, _), (bk 34, _)]) ?_ (St.le_cons rfl (St.le_cons rfl (St.le_cons rfl (St.le_cons rfl (St.le_cons rfl (St.le_cons rfl (St.le_cons rfl (St.le_cons rfl (St.le_cons rfl (St.le_cons rfl (St.le_cons rfl (St.le_nil _))))))))))))
    refine WPA.ghost (Ghost.swap 90 34 (by rw [hk]; decide) (by rw [hk]; decide) rfl) ?_
    apply WPA.region
    · apply Trace.pu [] (.move (.plain rfl))
      apply Trace.pu [] (.move (.plain rfl))
      first | apply Trace.pu [] (.indexRows el22 (.plain rfl) (.plain rfl) (fun _ => ⟨by omega, by omega⟩)) | apply Trace.pu [] (.indexOwn el22 (.plain rfl) (.plain rfl) (fun _ => ⟨by omega, by omega⟩)) | apply Trace.pu [] (.indexSl el22 (.plain rfl) (.plain rfl) (fun _ => ⟨by omega, by omega⟩))
      first | apply Trace.pu [_] (.loadLoc1D ty3 (.plain rfl) rfl rfl) | apply Trace.pu [_] (.loadLoc1 ty3 (.plain rfl) rfl rfl) | apply Trace.pu [] (.loadRp1 ty3 (.plain rfl) rfl) | apply Trace.pu [_] (.loadCol1 ty3 (.plain rfl) rfl rfl rfl (fun _ => by omega))
      apply Trace.pu [] (.cmp (.plain rfl) (.plain rfl) rfl)
      exact .nil _
    · exact keepOK_of hk hn rfl
    refine WPA.cond rfl (fun hc2 => ?_) (fun hc2 => ?_)
    · have hfp : 0 < fl.getD i 0 := of_decide_eq_true hc2
      have hAT : (g.arcsToC (fun i => -g.sl (fn pl) i) fl (i + 1)) = (g.arcsToC (fun i => -g.sl (fn pl) i) fl i) ++ [⟨e.f, e.t, -g.sl (fn pl) i, i, false, 1⟩] ++ [⟨e.t, e.f, - -g.sl (fn pl) i, i, true, -1⟩] := by
        show _ ++ g.arcsAtC (fun i => -g.sl (fn pl) i) fl i = _
        unfold Gr.arcsAtC Gr.fwdC Gr.bwdC
        rw [if_pos hfp, hed, List.append_assoc]; rfl
      have hLN : g.posC (fun i => -g.sl (fn pl) i) fl (i + 1) = g.posC (fun i => -g.sl (fn pl) i) fl i + 1 + 1 := by unfold Gr.posC; rw [hAT]; simp
      apply WPA.draw mixed
      · apply Trace.pu [] (.move (.plain rfl))
        apply Trace.pu [] (.move (.plain rfl))
        apply Trace.pu [] (.fieldAddr fl34_1 (.plain rfl) rfl)
        first | apply Trace.pu [_] (.loadLoc1D ty3 (.plain rfl) rfl rfl) | apply Trace.pu [_] (.loadLoc1 ty3 (.plain rfl) rfl rfl) | apply Trace.pu [] (.loadRp1 ty3 (.plain rfl) rfl) | apply Trace.pu [_] (.loadCol1 ty3 (.plain rfl) rfl rfl rfl (fun _ => by omega))
        apply Trace.pu [] (.fieldAddr fl34_0 (.plain rfl) rfl)
        first | apply Trace.pu [_] (.loadLoc1D ty3 (.plain rfl) rfl rfl) | apply Trace.pu [_] (.loadLoc1 ty3 (.plain rfl) rfl rfl) | apply Trace.pu [] (.loadRp1 ty3 (.plain rfl) rfl) | apply Trace.pu [_] (.loadCol1 ty3 (.plain rfl) rfl rfl rfl (fun _ => by omega))
        apply Trace.pu [] (.fieldAddr fl28_1 (.plain rfl) rfl)
        first | apply Trace.pu [_] (.loadLoc1D ty22 (.plain rfl) rfl rfl) | apply Trace.pu [_] (.loadLoc1 ty22 (.plain rfl) rfl rfl) | apply Trace.pu [] (.loadRp1 ty22 (.plain rfl) rfl) | apply Trace.pu [_] (.loadCol1 ty22 (.plain rfl) rfl rfl rfl (fun _ => by omega))
        apply Trace.pu [] (.move (.plain rfl))
        first | apply Trace.pu [] (.indexRows el22 (.plain rfl) (.plain rfl) (fun _ => ⟨by omega, by omega⟩)) | apply Trace.pu [] (.indexOwn el22 (.plain rfl) (.plain rfl) (fun _ => ⟨by omega, by omega⟩)) | apply Trace.pu [] (.indexSl el22 (.plain rfl) (.plain rfl) (fun _ => ⟨by omega, by omega⟩))
        apply Trace.pu [] ((Pure.loadRp1 ty3 (.plain rfl) rfl).to (y := iv .i64 (g.sl (fn pl) i)) (congrArg (iv .i64) hdl))
        apply Trace.pu [] (.neg (.plain rfl) (fun _ => bd64 (by omega)))
        apply Trace.pu [] (.build zo85 pl85 (.cons (.plain rfl) rfl rfl (Nat.le_of_ble_eq_true rfl) (.cons (.plain rfl) rfl rfl (Nat.le_of_ble_eq_true rfl) (.cons (.plain rfl) rfl rfl (Nat.le_of_ble_eq_true rfl) (.cons (.plain rfl) rfl rfl (Nat.le_of_ble_eq_true rfl) (.cons (.plain rfl) rfl rfl (Nat.le_of_ble_eq_true rfl) (.nil _ _)))))) rfl)
        apply Trace.buildSlice 53 [] so81 zo85 rfl (by decide) (by decide) (.cons (.plain rfl) rfl rfl (Nat.le_of_ble_eq_true rfl) (.nil _ _)) rfl rfl rfl
        apply Trace.append 54 [bk 90, bk 53, sl 40, sl 53, sl 7] ap81 kd81 (by decide) (.own (.plain rfl) rfl) (.own (.plain rfl) rfl) (Col.ones rfl) (labs_ok rfl) (by omega) (by omega) rfl rfl
        apply Trace.pu [] (.assign (.plain rfl))
        exact .nil _
      · rfl
      · exact keepOK_of hk hn rfl
      refine WPA.weaken (T := [(sl 2, .av (.own 0 g.es.length)), (sl 3, .av (.loc 3 0)), (sl 4, .av (.loc 4 0)), (sl 7, _), (sl 8, .av (iv .i64 (i))), (bk 3, .blk (.data g.ds)), (bk 4, .blk (.data [intsD pl, intsD (g.delTo pl g.es.length), .v (.int .i64 M)])), (bk 0, .blk (.app 1 g.es.length [.ints .i64 fl])), (bk 54, _)]) ?_ (St.le_cons rfl (St.le_cons rfl (St.le_cons rfl (St.le_cons rfl (St.le_cons rfl (St.le_cons rfl (St.le_cons rfl (St.le_cons rfl (St.le_cons rfl (St.le_nil _))))))))))
      refine WPA.ghost (Ghost.swap 90 54 (by rw [hk]; decide) (by rw [hk]; decide) rfl) ?_
      apply WPA.region
      · apply Trace.pu [] (.move (.plain rfl))
        apply Trace.pu [] (.arith (.plain rfl) (.plain rfl) rfl (fun _ => bd64 (by omega)))
        apply Trace.pu [] (.assign (.plain rfl))
        exact .nil _
      · exact keepOK_of hk hn rfl
      exact ⟨i + 1, by omega, by omega, St.le_cons rfl (St.le_cons rfl (St.le_cons rfl (St.le_cons (by rw [hLN]; rfl) (St.le_cons (slI (by omega)) (St.le_cons rfl (St.le_cons rfl (St.le_cons rfl (St.le_cons (by rw [hLN]; exact col5 (by rw [hAT]; simp only [arcColsN, List.map_append, List.map_cons, List.map_nil, Int.neg_neg]; rfl)) (St.le_nil _)))))))))⟩
    · have hfp : ¬ 0 < fl.getD i 0 := of_decide_eq_false hc2
      have hAT : (g.arcsToC (fun i => -g.sl (fn pl) i) fl (i + 1)) = (g.arcsToC (fun i => -g.sl (fn pl) i) fl i) ++ [⟨e.f, e.t, -g.sl (fn pl) i, i, false, 1⟩] := by
        show _ ++ g.arcsAtC (fun i => -g.sl (fn pl) i) fl i = _
        unfold Gr.arcsAtC Gr.fwdC
        rw [if_neg hfp, hed]
      have hLN : g.posC (fun i => -g.sl (fn pl) i) fl (i + 1) = g.posC (fun i => -g.sl (fn pl) i) fl i + 1 := by unfold Gr.posC; rw [hAT]; simp
      refine WPA.ghost (Ghost.swap 90 54 (by rw [hk]; decide) (by rw [hk]; decide) rfl) ?_
      apply WPA.skip
      refine WPA.weaken (T := [(sl 2, .av (.own 0 g.es.length)), (sl 3, .av (.loc 3 0)), (sl 4, .av (.loc 4 0)), (sl 7, _), (sl 8, .av (iv .i64 (i))), (bk 3, .blk (.data g.ds)), (bk 4, .blk (.data [intsD pl, intsD (g.delTo pl g.es.length), .v (.int .i64 M)])), (bk 0, .blk (.app 1 g.es.length [.ints .i64 fl])), (bk 54, _)]) ?_ (St.le_cons rfl (St.le_cons rfl (St.le_cons rfl (St.le_cons rfl (St.le_cons rfl (St.le_cons rfl (St.le_cons rfl (St.le_cons rfl (St.le_cons rfl (St.le_nil _))))))))))
      refine WPA.ghost (Ghost.swap 90 54 (by rw [hk]; decide) (by rw [hk]; decide) rfl) ?_
      apply WPA.region
      · apply Trace.pu [] (.move (.plain rfl))
        apply Trace.pu [] (.arith (.plain rfl) (.plain rfl) rfl (fun _ => bd64 (by omega)))
        apply Trace.pu [] (.assign (.plain rfl))
        exact .nil _
      · exact keepOK_of hk hn rfl
      exact ⟨i + 1, by omega, by omega, St.le_cons rfl (St.le_cons rfl (St.le_cons rfl (St.le_cons (by rw [hLN]; rfl) (St.le_cons (slI (by omega)) (St.le_cons rfl (St.le_cons rfl (St.le_cons rfl (St.le_cons (by rw [hLN]; exact col5 (by rw [hAT]; simp only [arcColsN, List.map_append, List.map_cons, List.map_nil, Int.neg_neg]; rfl)) (St.le_nil _)))))))))⟩
  · have hie : i = g.es.length := by
      have : ¬ ((i : Int) < g.es.length) := by simpa using hc1
      omega
    subst hie
    refine WPA.ghost (Ghost.freezeAs (t := 7) (l := 90) (g := fun k => (arcColsN ((g.arcsToC (fun i => -g.sl (fn pl) i) fl g.es.length))).map (Col.at · k)) rfl rfl (fun k hk => rfl)) ?_
    apply WPA.exit
    apply WPA.seq
    apply WPA.region
    · apply Trace.pu [] (.move (.plain rfl))
      apply Trace.pu [] (.assign (.plain rfl))
      exact .nil _
    · exact keepOK_of hk hn rfl
    apply WPA.ret
    refine ⟨.inr rfl, ⟨_, (.cons (.tmp rfl) .nil), ?_⟩, blks_of (.cons rfl .nil)⟩
    rfl

/-- soundpost/soundpostref24.cycle -/
theorem spec56 {N : Net} (hN : N.OK) (hT : (((N.n + 1) * N.as.length : Nat) : Int) * N.B ≤ 1152921504606846976) (hB : 0 ≤ N.B) (hB2 : N.B ≤ 1152921504606846976) (hn4 : N.n ≤ 1048576) (hm4 : N.as.length ≤ 4611686018427387904) (hs : ∀ a ∈ N.as, a.s ≠ 0) : FnSpec Try.prog 56 [iv .i64 N.n, .d (arcsND N.as)] [] (.d (intsD N.cycR)) [] [] := by
  refine fnSpec_of (rs := [.tmp 4]) Try.func56 rfl rfl (Nat.le_of_ble_eq_true rfl) (by simp [St.get]) fun E hk hn => ?_
  apply WPA.seq
  apply WPA.region
  · apply Trace.pu [] (.assign (.plain rfl))
    exact .nil _
  · exact keepOK_of hk hn rfl
  apply WPA.seq
  apply WPA.region
  · apply Trace.pu [] (.move (.plain rfl))
    apply Trace.makeSlice 15 [] so22 by3 zo3 rfl (by decide) (.plain rfl) (.plain rfl) ⟨by omega, by omega⟩ (by omega) (by omega) rfl rfl
    apply Trace.pu [] (.assign (.plain rfl))
    exact .nil _
  · exact keepOK_of hk hn rfl
  apply WPA.seq
  apply WPA.region
  · apply Trace.pu [] (.move (.plain rfl))
    apply Trace.makeSlice 17 [] so22 by3 zo3 rfl (by decide) (.plain rfl) (.plain rfl) ⟨by omega, by omega⟩ (by omega) (by omega) rfl rfl
    apply Trace.pu [] (.assign (.plain rfl))
    exact .nil _
  · exact keepOK_of hk hn rfl
  apply WPA.seq
  apply WPA.region
  · apply Trace.pu [] (.assign (.plain rfl))
    exact .nil _
  · exact keepOK_of hk hn rfl
  apply WPA.seq
  apply WPA.seq
  apply WPA.region
  · apply Trace.pu [] (.assign (.plain rfl))
    exact .nil _
  · exact keepOK_of hk hn rfl
  apply WPA.block
  refine WPA.loop (σ := Nat) (fun i => [(sl 0, .av (iv .i64 (N.n))), (sl 1, .av (.d (arcsND N.as))), (sl 4, .av (.d (.v (.slice none 0 0)))), (sl 5, .av (.own 15 N.n)), (sl 6, .av (.own 17 N.n)), (sl 7, .av (iv .i64 ((xstt N i).node))), (sl 8, .av (iv .i64 (i))), (bk 15, .blk (.app 1 N.n [.ints .i64 (negL (xstt N i).at_)])), (bk 17, .blk (.app 1 N.n [.ints .i64 (xstt N i).ix]))]) (fun i => i ≤ N.n) (fun i => N.n - i) 0
    (St.le_cons rfl (St.le_cons rfl (St.le_cons rfl (St.le_cons rfl (St.le_cons rfl (St.le_cons rfl (St.le_cons rfl (St.le_cons (app_eq64 (by simp only [negL, xstt, List.map_replicate]; rfl)) (St.le_cons rfl (St.le_nil _)))))))))) (Nat.zero_le _) fun k hk0 => ?_
  apply WPA.seq
  apply WPA.seq
  apply WPA.region
  · apply Trace.pu [] (.move (.plain rfl))
    apply Trace.pu [] (.move (.plain rfl))
    apply Trace.pu [] (.cmp (.plain rfl) (.plain rfl) rfl)
    exact .nil _
  · exact keepOK_of hk hn rfl
  refine WPA.cond rfl (fun hc1 => ?_) (fun hc1 => ?_)
  · have hkn : k < N.n := by simpa using hc1
    apply WPA.skip
    apply WPA.seq
    apply WPA.block
    apply WPA.seq
    apply WPA.region
    · apply Trace.pu [] (.assign (.plain rfl))
      exact .nil _
    · exact keepOK_of hk hn rfl
    apply WPA.seq
    apply WPA.region
    · apply Trace.pu [] (.assign (.plain rfl))
      exact .nil _
    · exact keepOK_of hk hn rfl
    apply WPA.block
    refine WPA.loop (σ := Nat) (fun i => [(sl 0, .av (iv .i64 (N.n))), (sl 1, .av (.d (arcsND N.as))), (sl 4, .av (.d (.v (.slice none 0 0)))), (sl 5, .av (.own 15 N.n)), (sl 6, .av (.own 17 N.n)), (sl 7, .av (iv .i64 ((xpassTo N (xstt N k) i).node))), (sl 8, .av (iv .i64 (k))), (sl 9, .av (iv .i64 (i))), (bk 15, .blk (.app 1 N.n [.ints .i64 (negL (xpassTo N (xstt N k) i).at_)])), (bk 17, .blk (.app 1 N.n [.ints .i64 (xpassTo N (xstt N k) i).ix]))]) (fun i => i ≤ N.as.length) (fun i => N.as.length - i) 0
      (St.le_cons rfl (St.le_cons rfl (St.le_cons rfl (St.le_cons rfl (St.le_cons rfl (St.le_cons rfl (St.le_cons rfl (St.le_cons rfl (St.le_cons rfl (St.le_cons rfl (St.le_nil _))))))))))) (Nat.zero_le _) fun i hi => ?_
    apply WPA.seq
    apply WPA.seq
    apply WPA.region
    · apply Trace.pu [] (.move (.plain rfl))
      apply Trace.pu [] (.move (.plain rfl))
      apply Trace.pu [] (.len rfl Try.underlying81 (.plain rfl) rfl)
      apply Trace.pu [] (.cmp (.plain rfl) (.plain rfl) rfl)
      exact .nil _
    · exact keepOK_of hk hn rfl
    refine WPA.cond rfl (fun hc2 => ?_) (fun hc2 => ?_)
    · have hlt : i < N.as.length := by simpa using hc2
      obtain ⟨a, ha⟩ : ∃ a, N.as.getD i default = a := ⟨_, rfl⟩
      have hga : a ∈ N.as := by rw [← ha]; exact (Net.arc hN hlt).1
      have hab := hN.as a hga
      have hG := lpassTo_good hN hT hB (k := k) (i := i) hk0 hi
      have hXk : (xpassTo N (xstt N k) i).lp N = N.passTo (N.stt k) i := by rw [xpassTo_lp N _ _ hi, xstt_lp]
      have hIk := xpassTo_ok hN (xstt_ok hN k) i hi
      have hsc : xpassTo N (xstt N k) (i + 1) = xrelax N (xpassTo N (xstt N k) i) i := rfl
      rw [← hXk] at hG
      generalize xpassTo N (xstt N k) i = x at hG hIk hXk hsc ⊢
      have hab1 := hab.1
      have hab2 := hab.2.1
      have hab3 := hab.2.2
      have hla : x.at_.length = N.n := hG.la
      have hll := hIk.len
      have hnl := negL_len x.at_
      have hb1 : 0 ≤ x.at_.getD a.f.toNat 0 ∧ x.at_.getD a.f.toNat 0 ≤ 1152921504606846976 := hG.bd a.f.toNat
      have hb2 : 0 ≤ x.at_.getD a.t.toNat 0 ∧ x.at_.getD a.t.toNat 0 ≤ 1152921504606846976 := hG.bd a.t.toNat
      have hn1' := negL_at x.at_ a.f.toNat
      have hn2' := negL_at x.at_ a.t.toNat
      apply WPA.skip
      apply WPA.seq
      apply WPA.block
      apply WPA.seq
      apply WPA.region
      · apply Trace.pu [] (.move (.plain rfl))
        apply Trace.pu [] (.move (.plain rfl))
        apply Trace.pu [] ((Pure.indexRows el81 (.plain rfl) (.plain rfl) (fun _ => ⟨by omega, by omega⟩)).to (y := .rp a.dsN) (by show AV.rp ((arcColsN N.as).map (Col.at · i)) = _; rw [arc_rowN hlt, ha]))
        first | apply Trace.pu [_] (.loadAllD ty85 (.plain rfl) rfl (by simp)) | apply Trace.pu [_] (.loadLocD ty85 (.plain rfl) rfl (fun _ => by simp)) | apply Trace.pu [_] (.loadLoc ty85 (.plain rfl) rfl (fun _ => Nat.le_of_ble_eq_true rfl)) | apply Trace.pu [] (.loadRp ty85 (.plain rfl) (fun _ => by decide)) | apply Trace.pu [] (.loadRp ty85 (.plain rfl) (fun _ => Nat.le_of_ble_eq_true rfl)) | apply Trace.pu [_] (.loadCol ty85 (.plain rfl) rfl rfl (fun _ => by decide) (fun _ => by omega)) | apply Trace.pu [_] (.loadArr ty85 (.plain rfl) rfl)
        apply Trace.alloc 10 [] (.data _) zo85 (cellsAs_data _) rfl
        first | apply Trace.storeD ty85 (.plain rfl) (.plain rfl) rfl rfl (by simp) (by simp [AV.oneB, single]) (by simp) (spliceL_all (by simp)) | apply Trace.storeD ty85 (.plain rfl) (.plain rfl) rfl rfl (by simp) (by simp [AV.oneB, single]) (by simp) rfl | apply Trace.storeDA ty85 (.plain rfl) (.plain rfl) rfl rfl (by simp) (by simp [AV.oneB, single]) (by simp) rfl | apply Trace.storeLoc ty85 (.plain rfl) (.plain rfl) rfl rfl (by simp) (by simp [AV.oneB, single]) (by simp) rfl | apply Trace.storeRow ty85 (.plain rfl) (.plain rfl) rfl rfl rfl rfl (by decide) (by simp [AV.oneB, single]) rfl (by omega)
        exact .nil _
      · exact keepOK_of hk hn rfl
      apply WPA.seq
      apply WPA.draw mixed
      · apply Trace.pu [] (.move (.plain rfl))
        apply Trace.pu [] (.fieldAddr fl85_1 (.plain rfl) rfl)
        first | apply Trace.pu [_] (.loadLoc1D ty3 (.plain rfl) rfl rfl) | apply Trace.pu [_] (.loadLoc1 ty3 (.plain rfl) rfl rfl) | apply Trace.pu [] (.loadRp1 ty3 (.plain rfl) rfl) | apply Trace.pu [_] (.loadCol1 ty3 (.plain rfl) rfl rfl rfl (fun _ => by omega))
        first | apply Trace.pu [] (.indexRows el22 (.plain rfl) (.plain rfl) (fun _ => ⟨by omega, by omega⟩)) | apply Trace.pu [] (.indexOwn el22 (.plain rfl) (.plain rfl) (fun _ => ⟨by omega, by omega⟩)) | apply Trace.pu [] (.indexSl el22 (.plain rfl) (.plain rfl) (fun _ => ⟨by omega, by omega⟩))
        first | apply Trace.pu [_] (.loadLoc1D ty3 (.plain rfl) rfl rfl) | apply Trace.pu [_] (.loadLoc1 ty3 (.plain rfl) rfl rfl) | apply Trace.pu [] (.loadRp1 ty3 (.plain rfl) rfl) | apply Trace.pu [_] (.loadCol1 ty3 (.plain rfl) rfl rfl rfl (fun _ => by omega))
        apply Trace.pu [] (.fieldAddr fl85_3 (.plain rfl) rfl)
        first | apply Trace.pu [_] (.loadLoc1D ty3 (.plain rfl) rfl rfl) | apply Trace.pu [_] (.loadLoc1 ty3 (.plain rfl) rfl rfl) | apply Trace.pu [] (.loadRp1 ty3 (.plain rfl) rfl) | apply Trace.pu [_] (.loadCol1 ty3 (.plain rfl) rfl rfl rfl (fun _ => by omega))
        apply Trace.pu [] (.arith (.plain rfl) (.plain rfl) rfl (fun _ => bd64 (by omega)))
        apply Trace.pu [] (.move (.plain rfl))
        apply Trace.pu [] (.fieldAddr fl85_2 (.plain rfl) rfl)
        first | apply Trace.pu [_] (.loadLoc1D ty3 (.plain rfl) rfl rfl) | apply Trace.pu [_] (.loadLoc1 ty3 (.plain rfl) rfl rfl) | apply Trace.pu [] (.loadRp1 ty3 (.plain rfl) rfl) | apply Trace.pu [_] (.loadCol1 ty3 (.plain rfl) rfl rfl rfl (fun _ => by omega))
        first | apply Trace.pu [] (.indexRows el22 (.plain rfl) (.plain rfl) (fun _ => ⟨by omega, by omega⟩)) | apply Trace.pu [] (.indexOwn el22 (.plain rfl) (.plain rfl) (fun _ => ⟨by omega, by omega⟩)) | apply Trace.pu [] (.indexSl el22 (.plain rfl) (.plain rfl) (fun _ => ⟨by omega, by omega⟩))
        first | apply Trace.pu [_] (.loadLoc1D ty3 (.plain rfl) rfl rfl) | apply Trace.pu [_] (.loadLoc1 ty3 (.plain rfl) rfl rfl) | apply Trace.pu [] (.loadRp1 ty3 (.plain rfl) rfl) | apply Trace.pu [_] (.loadCol1 ty3 (.plain rfl) rfl rfl rfl (fun _ => by omega))
        apply Trace.pu [] (.cmp (.plain rfl) (.plain rfl) rfl)
        exact .nil _
      · rfl
      · exact keepOK_of hk hn rfl
      refine WPA.cond rfl (fun hc3 => ?_) (fun hc3 => ?_)
      · have hlt9 : (negL x.at_).getD a.f.toNat 0 + -a.by_ < (negL x.at_).getD a.t.toNat 0 := of_decide_eq_true hc3
        have hup : xrelax N x i = ⟨x.at_.set a.t.toNat (x.at_.getD a.f.toNat 0 + a.by_), x.ix.set a.t.toNat ((i : Int) + 1), a.t⟩ := by
          unfold xrelax; dsimp only; rw [ha]; exact if_pos (by omega)
        have hdn : (negL x.at_).getD a.f.toNat 0 + -a.by_ = -(x.at_.getD a.f.toNat 0 + a.by_) := by omega
        rw [hup] at hsc
        apply WPA.seq
        apply WPA.draw mixed
        · apply Trace.pu [] (.move (.plain rfl))
          apply Trace.pu [] (.fieldAddr fl85_2 (.plain rfl) rfl)
          first | apply Trace.pu [_] (.loadLoc1D ty3 (.plain rfl) rfl rfl) | apply Trace.pu [_] (.loadLoc1 ty3 (.plain rfl) rfl rfl) | apply Trace.pu [] (.loadRp1 ty3 (.plain rfl) rfl) | apply Trace.pu [_] (.loadCol1 ty3 (.plain rfl) rfl rfl rfl (fun _ => by omega))
          apply Trace.pu [] (.move (.plain rfl))
          apply Trace.pu [] (.fieldAddr fl85_1 (.plain rfl) rfl)
          first | apply Trace.pu [_] (.loadLoc1D ty3 (.plain rfl) rfl rfl) | apply Trace.pu [_] (.loadLoc1 ty3 (.plain rfl) rfl rfl) | apply Trace.pu [] (.loadRp1 ty3 (.plain rfl) rfl) | apply Trace.pu [_] (.loadCol1 ty3 (.plain rfl) rfl rfl rfl (fun _ => by omega))
          first | apply Trace.pu [] (.indexRows el22 (.plain rfl) (.plain rfl) (fun _ => ⟨by omega, by omega⟩)) | apply Trace.pu [] (.indexOwn el22 (.plain rfl) (.plain rfl) (fun _ => ⟨by omega, by omega⟩)) | apply Trace.pu [] (.indexSl el22 (.plain rfl) (.plain rfl) (fun _ => ⟨by omega, by omega⟩))
          first | apply Trace.pu [_] (.loadLoc1D ty3 (.plain rfl) rfl rfl) | apply Trace.pu [_] (.loadLoc1 ty3 (.plain rfl) rfl rfl) | apply Trace.pu [] (.loadRp1 ty3 (.plain rfl) rfl) | apply Trace.pu [_] (.loadCol1 ty3 (.plain rfl) rfl rfl rfl (fun _ => by omega))
          apply Trace.pu [] (.fieldAddr fl85_3 (.plain rfl) rfl)
          first | apply Trace.pu [_] (.loadLoc1D ty3 (.plain rfl) rfl rfl) | apply Trace.pu [_] (.loadLoc1 ty3 (.plain rfl) rfl rfl) | apply Trace.pu [] (.loadRp1 ty3 (.plain rfl) rfl) | apply Trace.pu [_] (.loadCol1 ty3 (.plain rfl) rfl rfl rfl (fun _ => by omega))
          apply Trace.pu [] (.arith (.plain rfl) (.plain rfl) rfl (fun _ => bd64 (by omega)))
          first | apply Trace.pu [] (.indexRows el22 (.plain rfl) (.plain rfl) (fun _ => ⟨by omega, by omega⟩)) | apply Trace.pu [] (.indexOwn el22 (.plain rfl) (.plain rfl) (fun _ => ⟨by omega, by omega⟩)) | apply Trace.pu [] (.indexSl el22 (.plain rfl) (.plain rfl) (fun _ => ⟨by omega, by omega⟩))
          first | apply Trace.storeD ty3 (.plain rfl) (.plain rfl) rfl rfl rfl (by simp [AV.oneB, single]) (Nat.le_of_ble_eq_true rfl) rfl | apply Trace.storeDA ty3 (.plain rfl) (.plain rfl) rfl rfl rfl (by simp [AV.oneB, single]) (Nat.le_of_ble_eq_true rfl) rfl | apply Trace.storeLoc ty3 (.plain rfl) (.plain rfl) rfl rfl rfl (by simp [AV.oneB, single]) (Nat.le_of_ble_eq_true rfl) rfl | apply Trace.storeRow ty3 (.plain rfl) (.plain rfl) rfl rfl rfl rfl (by decide) (by simp [AV.oneB, single]) rfl (by omega)
          exact .nil _
        · rfl
        · exact keepOK_of hk hn rfl
        apply WPA.seq
        apply WPA.region
        · apply Trace.pu [] (.move (.plain rfl))
          apply Trace.pu [] (.fieldAddr fl85_2 (.plain rfl) rfl)
          first | apply Trace.pu [_] (.loadLoc1D ty3 (.plain rfl) rfl rfl) | apply Trace.pu [_] (.loadLoc1 ty3 (.plain rfl) rfl rfl) | apply Trace.pu [] (.loadRp1 ty3 (.plain rfl) rfl) | apply Trace.pu [_] (.loadCol1 ty3 (.plain rfl) rfl rfl rfl (fun _ => by omega))
          apply Trace.pu [] (.move (.plain rfl))
          apply Trace.pu [] (.arith (.plain rfl) (.plain rfl) rfl (fun _ => bd64 (by omega)))
          first | apply Trace.pu [] (.indexRows el22 (.plain rfl) (.plain rfl) (fun _ => ⟨by omega, by omega⟩)) | apply Trace.pu [] (.indexOwn el22 (.plain rfl) (.plain rfl) (fun _ => ⟨by omega, by omega⟩)) | apply Trace.pu [] (.indexSl el22 (.plain rfl) (.plain rfl) (fun _ => ⟨by omega, by omega⟩))
          first | apply Trace.storeD ty3 (.plain rfl) (.plain rfl) rfl rfl rfl (by simp [AV.oneB, single]) (Nat.le_of_ble_eq_true rfl) rfl | apply Trace.storeDA ty3 (.plain rfl) (.plain rfl) rfl rfl rfl (by simp [AV.oneB, single]) (Nat.le_of_ble_eq_true rfl) rfl | apply Trace.storeLoc ty3 (.plain rfl) (.plain rfl) rfl rfl rfl (by simp [AV.oneB, single]) (Nat.le_of_ble_eq_true rfl) rfl | apply Trace.storeRow ty3 (.plain rfl) (.plain rfl) rfl rfl rfl rfl (by decide) (by simp [AV.oneB, single]) rfl (by omega)
          exact .nil _
        · exact keepOK_of hk hn rfl
        apply WPA.region
        · apply Trace.pu [] (.fieldAddr fl85_2 (.plain rfl) rfl)
          first | apply Trace.pu [_] (.loadLoc1D ty3 (.plain rfl) rfl rfl) | apply Trace.pu [_] (.loadLoc1 ty3 (.plain rfl) rfl rfl) | apply Trace.pu [] (.loadRp1 ty3 (.plain rfl) rfl) | apply Trace.pu [_] (.loadCol1 ty3 (.plain rfl) rfl rfl rfl (fun _ => by omega))
          apply Trace.pu [] (.assign (.plain rfl))
          exact .nil _
        · exact keepOK_of hk hn rfl
        apply WPA.region
        · apply Trace.pu [] (.move (.plain rfl))
          apply Trace.pu [] (.arith (.plain rfl) (.plain rfl) rfl (fun _ => bd64 (by omega)))
          apply Trace.pu [] (.assign (.plain rfl))
          exact .nil _
        · exact keepOK_of hk hn rfl
        refine ⟨i + 1, by omega, by omega, ?_⟩
        rw [hsc]
        first | exact St.le_cons rfl (St.le_cons rfl (St.le_cons rfl (St.le_cons rfl (St.le_cons rfl (St.le_cons rfl (St.le_cons rfl (St.le_cons (slI (by omega)) (St.le_cons (app_eq64 (by rw [hdn, negL_set])) (St.le_cons rfl (St.le_nil _)))))))))) | exact St.le_cons rfl (St.le_cons rfl (St.le_cons rfl (St.le_cons rfl (St.le_cons rfl (St.le_cons rfl (St.le_cons rfl (St.le_cons (slI (by omega)) (St.le_cons rfl (St.le_cons rfl (St.le_nil _))))))))))
      · have hlt9 : ¬ (negL x.at_).getD a.f.toNat 0 + -a.by_ < (negL x.at_).getD a.t.toNat 0 := of_decide_eq_false hc3
        have hup : xrelax N x i = x := by
          unfold xrelax; dsimp only; rw [ha]; exact if_neg (by omega)
        rw [hup] at hsc
        apply WPA.skip
        apply WPA.region
        · apply Trace.pu [] (.move (.plain rfl))
          apply Trace.pu [] (.arith (.plain rfl) (.plain rfl) rfl (fun _ => bd64 (by omega)))
          apply Trace.pu [] (.assign (.plain rfl))
          exact .nil _
        · exact keepOK_of hk hn rfl
        refine ⟨i + 1, by omega, by omega, ?_⟩
        rw [hsc]
        first | exact St.le_cons rfl (St.le_cons rfl (St.le_cons rfl (St.le_cons rfl (St.le_cons rfl (St.le_cons rfl (St.le_cons rfl (St.le_cons (slI (by omega)) (St.le_cons (app_eq64 (by rw [hdn, negL_set])) (St.le_cons rfl (St.le_nil _)))))))))) | exact St.le_cons rfl (St.le_cons rfl (St.le_cons rfl (St.le_cons rfl (St.le_cons rfl (St.le_cons rfl (St.le_cons rfl (St.le_cons (slI (by omega)) (St.le_cons rfl (St.le_cons rfl (St.le_nil _))))))))))
    · have him : i = N.as.length := by
        have : ¬ ((i : Int) < N.as.length) := by simpa using hc2
        omega
      subst him
      apply WPA.exit
      apply WPA.region
      · apply Trace.pu [] (.move (.plain rfl))
        apply Trace.pu [] (.arith (.plain rfl) (.plain rfl) rfl (fun _ => bd64 (by omega)))
        apply Trace.pu [] (.assign (.plain rfl))
        exact .nil _
      · exact keepOK_of hk hn rfl
      exact ⟨k + 1, by omega, by omega, St.le_cons rfl (St.le_cons rfl (St.le_cons rfl (St.le_cons rfl (St.le_cons rfl (St.le_cons rfl (St.le_cons (slI (by omega)) (St.le_cons rfl (St.le_cons rfl (St.le_nil _)))))))))⟩
  · have hkn : k = N.n := by
      have : ¬ ((k : Int) < N.n) := by simpa using hc1
      omega
    subst hkn
    have hxr := xstt_lp N N.n
    have hix := xstt_ok hN N.n
    have hcs := lstt_cases hN
    have hR : N.cycR = if (N.stt N.n).node < 0 then [] else (xstt N N.n).nums N ((N.stt N.n).back N.n (N.stt N.n).node.toNat) ((N.stt N.n).per N.n ((N.stt N.n).back N.n (N.stt N.n).node.toNat)) := rfl
    have hnd0 : (xstt N N.n).node = (N.stt N.n).node := congrArg LP.node hxr
    rw [hnd0]
    generalize xstt N N.n = x at hxr hix hR hnd0 ⊢
    generalize N.stt N.n = r at hxr hcs hR hnd0 ⊢
    apply WPA.exit
    apply WPA.seq
    apply WPA.seq
    apply WPA.region
    · apply Trace.pu [] (.move (.plain rfl))
      apply Trace.pu [] (.cmp (.plain rfl) (.plain rfl) rfl)
      exact .nil _
    · exact keepOK_of hk hn rfl
    refine WPA.cond rfl (fun hc4 => ?_) (fun hc4 => ?_)
    · have hq : r.node < 0 := by simpa using hc4
      rw [if_pos hq] at hR
      apply WPA.seq
      apply WPA.region
      · apply Trace.pu [] (.assign (.plain rfl))
        exact .nil _
      · exact keepOK_of hk hn rfl
      refine WPA.ghost (Ghost.slot (t := 4) (x := .d (.v (.slice none 0 0))) (y := .d (intsD [])) rfl den_emp) ?_
      apply WPA.ret
      refine ⟨.inr rfl, ⟨_, (.cons (.tmp rfl) .nil), ?_⟩, by simp [St.get]⟩
      rw [hR]; rfl
    · have hq : ¬ r.node < 0 := by simpa using hc4
      rw [if_neg hq] at hR
      rcases hcs with ⟨h1, _⟩ | ⟨v, hv, hnd, hway, hcy⟩
      · omega
      rw [hnd] at hR
      rw [show ((v : Nat) : Int).toNat = v from rfl] at hR
      obtain ⟨z, hz⟩ : ∃ z, r.back N.n v = z := ⟨_, rfl⟩
      rw [hz] at hcy hR
      obtain ⟨hp0, hpn, hpx, hpmin⟩ := lper_spec hcy
      obtain ⟨p, hp⟩ : ∃ p, r.per N.n z = p := ⟨_, rfl⟩
      rw [hp] at hp0 hpn hpx hpmin hR
      refine WPA.weaken (T := [(sl 0, .av (iv .i64 (N.n))), (sl 1, .av (.d (arcsND N.as))), (sl 4, .av (.d (.v (.slice none 0 0)))), (sl 6, .av (.own 17 N.n)), (bk 17, .blk (.app 1 N.n [.ints .i64 x.ix])), (sl 7, .av (iv .i64 ((v : Nat))))]) ?_ (St.le_cons rfl (St.le_cons rfl (St.le_cons rfl (St.le_cons rfl (St.le_cons rfl (St.le_cons (slI hnd) (St.le_nil _)))))))
      apply WPA.skip
      apply WPA.seq
      apply WPA.seq
      apply WPA.region
      · apply Trace.pu [] (.assign (.plain rfl))
        exact .nil _
      · exact keepOK_of hk hn rfl
      apply WPA.block
      refine WPA.loop (σ := Nat) (fun i => [(sl 0, .av (iv .i64 (N.n))), (sl 1, .av (.d (arcsND N.as))), (sl 4, .av (.d (.v (.slice none 0 0)))), (sl 6, .av (.own 17 N.n)), (bk 17, .blk (.app 1 N.n [.ints .i64 x.ix])), (sl 7, .av (iv .i64 ((r.back i v : Nat)))), (sl 11, .av (iv .i64 (i)))]) (fun i => i ≤ N.n) (fun i => N.n - i) 0
        (St.le_cons rfl (St.le_cons rfl (St.le_cons rfl (St.le_cons rfl (St.le_cons rfl (St.le_cons rfl (St.le_cons rfl (St.le_nil _)))))))) (Nat.zero_le _) fun j hj => ?_
      apply WPA.seq
      apply WPA.seq
      apply WPA.region
      · apply Trace.pu [] (.move (.plain rfl))
        apply Trace.pu [] (.move (.plain rfl))
        apply Trace.pu [] (.cmp (.plain rfl) (.plain rfl) rfl)
        exact .nil _
      · exact keepOK_of hk hn rfl
      refine WPA.cond rfl (fun hc5 => ?_) (fun hc5 => ?_)
      · have hjl : j < N.n := by simpa using hc5
        obtain ⟨y, hy⟩ : ∃ y, r.back j v = y := ⟨_, rfl⟩
        rw [hy]
        have hoy := hway j
        rw [hy] at hoy
        have hyl : y < N.n := hoy.lt
        obtain ⟨hj1, hj1b, hj3⟩ := ix_at hix hs (x := x) (y := y) (by rw [hxr]; exact hoy)
        have hj2 : (x.ix.getD y 0 - 1).toNat < N.as.length := by omega
        obtain ⟨a, ha⟩ : ∃ a, (x.lp N).L y = a := ⟨_, rfl⟩
        rw [ha] at hj3
        have haf : a.f = ((r.pr y : Nat) : Int) := by
          have h9 := (hN.as _ (hxr ▸ hoy).mem).1
          rw [ha] at h9
          unfold LP.pr
          rw [← hxr, ha]; omega
        have hj1' : 1 ≤ x.ix.getD ((y : Nat) : Int).toNat 0 ∧ x.ix.getD ((y : Nat) : Int).toNat 0 ≤ N.as.length := ⟨hj1, hj1b⟩
        have hxil := hix.len
        apply WPA.skip
        apply WPA.seq
        apply WPA.block
        apply WPA.region
        · apply Trace.pu [] (.move (.plain rfl))
          apply Trace.pu [] (.move (.plain rfl))
          apply Trace.pu [] (.move (.plain rfl))
          first | apply Trace.pu [] (.indexRows el22 (.plain rfl) (.plain rfl) (fun _ => ⟨by omega, by omega⟩)) | apply Trace.pu [] (.indexOwn el22 (.plain rfl) (.plain rfl) (fun _ => ⟨by omega, by omega⟩)) | apply Trace.pu [] (.indexSl el22 (.plain rfl) (.plain rfl) (fun _ => ⟨by omega, by omega⟩))
          first | apply Trace.pu [_] (.loadLoc1D ty3 (.plain rfl) rfl rfl) | apply Trace.pu [_] (.loadLoc1 ty3 (.plain rfl) rfl rfl) | apply Trace.pu [] (.loadRp1 ty3 (.plain rfl) rfl) | apply Trace.pu [_] (.loadCol1 ty3 (.plain rfl) rfl rfl rfl (fun _ => by omega))
          apply Trace.pu [] (.arith (.plain rfl) (.plain rfl) rfl (fun _ => bd64 (by omega)))
          apply Trace.pu [] ((Pure.indexRows el81 (.plain rfl) (.plain rfl) (fun _ => ⟨by omega, by omega⟩)).to (y := .rp a.dsN) (by show AV.rp ((arcColsN N.as).map (Col.at · (x.ix.getD y 0 - 1).toNat)) = _; rw [arc_rowN hj2, hj3]))
          apply Trace.pu [] (.fieldAddr fl85_1 (.plain rfl) rfl)
          apply Trace.pu [] ((Pure.loadRp1 ty3 (.plain rfl) rfl).to (y := iv .i64 (r.pr y : Nat)) (congrArg (iv .i64) haf))
          apply Trace.pu [] (.assign (.plain rfl))
          exact .nil _
        · exact keepOK_of hk hn rfl
        apply WPA.region
        · apply Trace.pu [] (.move (.plain rfl))
          apply Trace.pu [] (.arith (.plain rfl) (.plain rfl) rfl (fun _ => bd64 (by omega)))
          apply Trace.pu [] (.assign (.plain rfl))
          exact .nil _
        · exact keepOK_of hk hn rfl
        exact ⟨j + 1, by omega, by omega, St.le_cons rfl (St.le_cons rfl (St.le_cons rfl (St.le_cons rfl (St.le_cons rfl (St.le_cons (by rw [← hy]; rfl) (St.le_cons (slI (by omega)) (St.le_nil _)))))))⟩
      · have hjn : j = N.n := by
          have : ¬ ((j : Int) < N.n) := by simpa using hc5
          omega
        subst hjn
        rw [hz]
        refine WPA.weaken (T := [(sl 0, .av (iv .i64 (N.n))), (sl 1, .av (.d (arcsND N.as))), (sl 6, .av (.own 17 N.n)), (bk 17, .blk (.app 1 N.n [.ints .i64 x.ix])), (sl 7, .av (iv .i64 ((z : Nat))))]) ?_ (St.le_cons rfl (St.le_cons rfl (St.le_cons rfl (St.le_cons rfl (St.le_cons rfl (St.le_nil _))))))
        apply WPA.exit
        apply WPA.seq
        apply WPA.region
        · apply Trace.pu [] (.assign (.plain rfl))
          exact .nil _
        · exact keepOK_of hk hn rfl
        apply WPA.seq
        refine WPA.ghost (Ghost.ownNil' (t := 12) (l := 90) (cs := [.ints .i64 []]) (n := 1) rfl rfl (by rw [hk]; decide) (by rw [hn]; exact Nat.le_of_ble_eq_true rfl) rfl (by simp [Col.len])) ?_
        apply WPA.region
        · apply Trace.pu [] (.move (.plain rfl))
          apply Trace.pu [] (.assign (.plain rfl))
          exact .nil _
        · exact keepOK_of hk hn rfl
        apply WPA.seq
        apply WPA.block
        refine WPA.loop (σ := Nat) (fun i => [(sl 1, .av (.d (arcsND N.as))), (sl 6, .av (.own 17 N.n)), (bk 17, .blk (.app 1 N.n [.ints .i64 x.ix])), (sl 7, .av (iv .i64 ((z : Nat)))), (sl 12, .av (.own 90 i)), (sl 13, .av (iv .i64 ((r.back i z : Nat)))), (bk 90, .blk (.app 1 i [.ints .i64 (x.nums N z i)]))]) (fun i => i ≤ p) (fun i => p - i) 0
          (St.le_cons rfl (St.le_cons rfl (St.le_cons rfl (St.le_cons rfl (St.le_cons rfl (St.le_cons rfl (St.le_cons rfl (St.le_nil _)))))))) (Nat.zero_le _) fun i hi => ?_
        apply WPA.seq
        apply WPA.seq
        apply WPA.region
        · apply Trace.pu [] (.move (.plain rfl))
          apply Trace.pu [] (.len rfl Try.underlying22 (.plain rfl) rfl)
          apply Trace.pu [] (.cmp (.plain rfl) (.plain rfl) rfl)
          apply Trace.pu [] (.move (.plain rfl))
          apply Trace.pg [] rfl (.move (.plain rfl))
          apply Trace.pg [] rfl (.move (.plain rfl))
          apply Trace.pg [] rfl (.cmp (.gd rfl (fun h => h)) (.gd rfl (fun h => h)) rfl)
          apply Trace.pu [] (.pick (.plain rfl) (.plain rfl) (.gd rfl (by simp)))
          exact .nil _
        · exact keepOK_of hk hn rfl
        refine WPA.cond rfl (fun hc6 => ?_) (fun hc6 => ?_)
        · have hlt : i < p := by
            have h9 : (bif decide ((i : Int) = 0) then true else !decide (((r.back i z : Nat) : Int) = (z : Nat))) = true := hc6
            rw [bif_or, Bool.or_eq_true, decide_eq_true_eq, Bool.not_eq_true', decide_eq_false_iff_not] at h9
            rcases h9 with h9 | h9
            · omega
            · by_cases e : i = p
              · rw [e, hpx] at h9; exact absurd rfl h9
              · omega
          obtain ⟨y, hy⟩ : ∃ y, r.back i z = y := ⟨_, rfl⟩
          rw [hy]
          have hoy := hcy.way i
          rw [hy] at hoy
          have hyl : y < N.n := hoy.lt
          obtain ⟨hj1, hj1b, hj3⟩ := ix_at hix hs (x := x) (y := y) (by rw [hxr]; exact hoy)
          have hj2 : (x.ix.getD y 0 - 1).toNat < N.as.length := by omega
          obtain ⟨a, ha⟩ : ∃ a, (x.lp N).L y = a := ⟨_, rfl⟩
          rw [ha] at hj3
          have haf : a.f = ((r.pr y : Nat) : Int) := by
            have h9 := (hN.as _ (hxr ▸ hoy).mem).1
            rw [ha] at h9
            unfold LP.pr
            rw [← hxr, ha]; omega
          have hj1' : 1 ≤ x.ix.getD ((y : Nat) : Int).toNat 0 ∧ x.ix.getD ((y : Nat) : Int).toNat 0 ≤ N.as.length := ⟨hj1, hj1b⟩
          have hxil := hix.len
          have hns := nums_succ N x z i
          rw [hxr, hy] at hns
          apply WPA.skip
          apply WPA.block
          apply WPA.seq
          apply WPA.region
          · apply Trace.pu [] (.move (.plain rfl))
            apply Trace.pu [] (.move (.plain rfl))
            apply Trace.pu [] (.move (.plain rfl))
            first | apply Trace.pu [] (.indexRows el22 (.plain rfl) (.plain rfl) (fun _ => ⟨by omega, by omega⟩)) | apply Trace.pu [] (.indexOwn el22 (.plain rfl) (.plain rfl) (fun _ => ⟨by omega, by omega⟩)) | apply Trace.pu [] (.indexSl el22 (.plain rfl) (.plain rfl) (fun _ => ⟨by omega, by omega⟩))
            first | apply Trace.pu [_] (.loadLoc1D ty3 (.plain rfl) rfl rfl) | apply Trace.pu [_] (.loadLoc1 ty3 (.plain rfl) rfl rfl) | apply Trace.pu [] (.loadRp1 ty3 (.plain rfl) rfl) | apply Trace.pu [_] (.loadCol1 ty3 (.plain rfl) rfl rfl rfl (fun _ => by omega))
            apply Trace.pu [] (.arith (.plain rfl) (.plain rfl) rfl (fun _ => bd64 (by omega)))
            apply Trace.buildSlice 98 [] so22 zo3 rfl (by decide) (by decide) (.cons (.plain rfl) rfl rfl (Nat.le_of_ble_eq_true rfl) (.nil _ _)) rfl rfl rfl
            apply Trace.append 99 [bk 90, bk 98, sl 92, sl 98, sl 12] ap22 kd22 (by decide) (.own (.plain rfl) rfl) (.own (.plain rfl) rfl) (Col.ones rfl) (labs_ok rfl) (by omega) (by omega) rfl rfl
            apply Trace.pu [] (.assign (.plain rfl))
            exact .nil _
          · exact keepOK_of hk hn rfl
          refine WPA.ghost (Ghost.swap 90 99 (by rw [hk]; decide) (by rw [hk]; decide) rfl) ?_
          apply WPA.region
          · apply Trace.pu [] (.move (.plain rfl))
            apply Trace.pu [] (.move (.plain rfl))
            apply Trace.pu [] (.move (.plain rfl))
            first | apply Trace.pu [] (.indexRows el22 (.plain rfl) (.plain rfl) (fun _ => ⟨by omega, by omega⟩)) | apply Trace.pu [] (.indexOwn el22 (.plain rfl) (.plain rfl) (fun _ => ⟨by omega, by omega⟩)) | apply Trace.pu [] (.indexSl el22 (.plain rfl) (.plain rfl) (fun _ => ⟨by omega, by omega⟩))
            first | apply Trace.pu [_] (.loadLoc1D ty3 (.plain rfl) rfl rfl) | apply Trace.pu [_] (.loadLoc1 ty3 (.plain rfl) rfl rfl) | apply Trace.pu [] (.loadRp1 ty3 (.plain rfl) rfl) | apply Trace.pu [_] (.loadCol1 ty3 (.plain rfl) rfl rfl rfl (fun _ => by omega))
            apply Trace.pu [] (.arith (.plain rfl) (.plain rfl) rfl (fun _ => bd64 (by omega)))
            apply Trace.pu [] ((Pure.indexRows el81 (.plain rfl) (.plain rfl) (fun _ => ⟨by omega, by omega⟩)).to (y := .rp a.dsN) (by show AV.rp ((arcColsN N.as).map (Col.at · (x.ix.getD y 0 - 1).toNat)) = _; rw [arc_rowN hj2, hj3]))
            apply Trace.pu [] (.fieldAddr fl85_1 (.plain rfl) rfl)
            apply Trace.pu [] ((Pure.loadRp1 ty3 (.plain rfl) rfl).to (y := iv .i64 (r.pr y : Nat)) (congrArg (iv .i64) haf))
            apply Trace.pu [] (.assign (.plain rfl))
            exact .nil _
          · exact keepOK_of hk hn rfl
          exact ⟨i + 1, by omega, by omega, St.le_cons rfl (St.le_cons rfl (St.le_cons rfl (St.le_cons rfl (St.le_cons rfl (St.le_cons (by rw [← hy]; rfl) (St.le_cons (app_eq64 hns.symm) (St.le_nil _)))))))⟩
        · have hip : i = p := by
            have h9 : (bif decide ((i : Int) = 0) then true else !decide (((r.back i z : Nat) : Int) = (z : Nat))) = false := hc6
            rw [bif_or, Bool.or_eq_false_iff, decide_eq_false_iff_not, Bool.not_eq_false', decide_eq_true_eq] at h9
            by_cases e : i = p
            · exact e
            · exact absurd (by omega) (hpmin i (by omega) (by omega))
          subst hip
          refine WPA.ghost (Ghost.freezeAs (t := 12) (l := 90) (g := fun k => [Col.at (.ints .i64 (x.nums N z i)) k]) rfl rfl (fun k hk => rfl)) ?_
          apply WPA.exit
          apply WPA.seq
          apply WPA.region
          · apply Trace.pu [] (.move (.plain rfl))
            apply Trace.pu [] (.assign (.plain rfl))
            exact .nil _
          · exact keepOK_of hk hn rfl
          apply WPA.ret
          refine ⟨.inr rfl, ⟨_, (.cons (.tmp rfl) .nil), ?_⟩, by simp [St.get]⟩
          rw [hR]
          simp only [intsD, rowsD, nums_len]
          rfl

end Go.Proofs.Ytcidkahhfdcddaa


/- The reference's Cheapest and Make; CertifyMakeSpec. -/
namespace Go.Proofs.Ytcidkahhfdcddaa
open Go
set_option linter.unusedVariables false
set_option linter.unusedSimpArgs false
set_option maxRecDepth 10000
set_option maxHeartbeats 1000000

noncomputable def Gr.refMakeP (g : Gr) (p : Pl) : List Int × Int := if g.check ≠ 0 then ([], g.check) else if g.isPlan p = true then (if g.mem (fn g.best) = p.mem then (g.certR (fn p.at_), 0) else ([], 240)) else ([], 230)
theorem make_same (g : Gr) (p : Pl) : (g.certMakeP p).2 = (g.refMakeP p).2 := by
  unfold Gr.certMakeP Gr.refMakeP
  split
  · rfl
  · split
    · split <;> rfl
    · rfl
theorem make_err {g : Gr} {p : Pl} (h : (g.certMakeP p).2 ≠ 0) : (g.certMakeP p).1 = [] := by
  unfold Gr.certMakeP at *
  split
  · rfl
  · rename_i h1; rw [if_neg h1] at h
    split
    · rename_i h2; rw [if_pos h2] at h
      split
      · rename_i h3; rw [if_pos h3] at h; exact absurd rfl h
      · rfl
    · rfl
theorem make_pass {g : Gr} (ht : g.Tiny) {p : Pl} (h : (g.certMakeP p).2 = 0) : g.certP p (g.certMakeP p).1 = (true, 0) ∧ (g.certMakeP p).1.length = g.es.length := by
  unfold Gr.certMakeP at *
  split at h
  · rename_i h1; exact absurd h h1
  · rename_i h1
    rw [if_neg h1]
    have hC : g.check = 0 := Classical.not_not.1 h1
    split at h
    · rename_i h2
      rw [if_pos h2]
      split at h
      · rename_i h3
        rw [if_pos h3]
        obtain ⟨a, b, c⟩ := certF_flow hC ht (isPlan_iff.1 h2).2.1
        refine ⟨?_, b⟩
        unfold Gr.certP
        rw [if_neg h1, if_pos h2, if_pos a, decide_eq_true (show g.bnd (g.certF (fn p.at_)) g.es.length = p.mem by rw [c]; exact h3)]
      · cases h
    · cases h
theorem ckS {g : Gr} (hz : g.Sz) {p : Pl} (hp : p.Sz) {fl : List Int} (hfl : fl.length ≤ 4611686018427387904) {a : Bool} {c : Int} (h : g.certP p fl = (a, c)) : FnSpec Try.prog 22 [g.av, .d p.d, .d (intsD fl)] [] (.tup ([.v (.bool a), .v (.int .i64 c)].map .d)) [] [] := by
  have := spec22 g hz p hp fl hfl
  rw [h] at this
  exact this
/-- soundpost/soundpostref24.Weights -/
theorem weO {g : Gr} (hok : g.OK) : FnSpec Try.prog 24 [g.av] [] (.own 90 g.es.length) [(bk 90, .blk (.app 1 g.es.length [.ints .i64 g.ws]))] [] := by
  have hn1 := hok.n
  have hn2 := hok.m
  refine fnSpec_of (rs := [.tmp 2]) Try.func24 rfl rfl (Nat.le_of_ble_eq_true rfl) (by simp [St.get]) fun E hk hn => ?_
  apply WPA.seq
  apply WPA.region
  · first | apply Trace.boxD 1 [] (.plain rfl) rfl rfl | apply Trace.box 1 [] (.plain rfl) rfl rfl rfl
    apply Trace.pu [] (.assign (.plain rfl))
    exact .nil _
  · exact keepOK_of hk hn rfl
  apply WPA.seq
  apply WPA.region
  · apply Trace.pu [] (.assign (.plain rfl))
    exact .nil _
  · exact keepOK_of hk hn rfl
  apply WPA.seq
  apply WPA.seq
  refine WPA.ghost (Ghost.ownNil' (t := 3) (l := 90) (cs := [.ints .i64 []]) (n := 1) rfl rfl (by rw [hk]; decide) (by rw [hn]; exact Nat.le_of_ble_eq_true rfl) rfl (by simp [Col.len])) ?_
  apply WPA.region
  · apply Trace.pu [] (.assign (.plain rfl))
    exact .nil _
  · exact keepOK_of hk hn rfl
  apply WPA.block
  refine WPA.loop (σ := Nat) (fun i => [(sl 1, .av (.loc 1 0)), (sl 3, .av (.own 90 i)), (sl 4, .av (iv .i64 (i))), (bk 1, .blk (.data g.ds)), (bk 90, .blk (.app 1 i [.ints .i64 (g.wsP i)]))]) (fun i => i ≤ g.es.length) (fun i => g.es.length - i) 0
    (St.le_cons rfl (St.le_cons rfl (St.le_cons rfl (St.le_cons rfl (St.le_cons rfl (St.le_nil _)))))) (Nat.zero_le _) fun i hi => ?_
  apply WPA.seq
  apply WPA.seq
  apply WPA.region
  · apply Trace.pu [] (.move (.plain rfl))
    apply Trace.pu [] (.fieldAddr fl25_1 (.plain rfl) rfl)
    first | apply Trace.pu [_] (.loadLoc1D ty23 (.plain rfl) rfl rfl) | apply Trace.pu [_] (.loadLoc1 ty23 (.plain rfl) rfl rfl) | apply Trace.pu [] (.loadRp1 ty23 (.plain rfl) rfl) | apply Trace.pu [_] (.loadCol1 ty23 (.plain rfl) rfl rfl rfl (fun _ => by omega))
    apply Trace.pu [] (.len rfl Try.underlying23 (.plain rfl) rfl)
    apply Trace.pu [] (.cmp (.plain rfl) (.plain rfl) rfl)
    exact .nil _
  · exact keepOK_of hk hn rfl
  refine WPA.cond rfl (fun hc1 => ?_) (fun hc1 => ?_)
  · have hlt : i < g.es.length := by simpa using hc1
    obtain ⟨e, he⟩ : ∃ e, g.es.getD i default = e := ⟨_, rfl⟩
    have hem : e ∈ g.es := by rw [← he]; exact (Gr.edge hok hlt).1
    obtain ⟨he1, he2, he3, he4, he5, he6, he7, he8, he9, he10⟩ := Gr.edge_mem hok hem
    have hed : g.ed i = e := he
    have hws := wsP_succ g i
    rw [hed] at hws
    apply WPA.skip
    apply WPA.seq
    apply WPA.block
    apply WPA.region
    · apply Trace.pu [] (.move (.plain rfl))
      apply Trace.pu [] (.fieldAddr fl25_1 (.plain rfl) rfl)
      first | apply Trace.pu [_] (.loadLoc1D ty23 (.plain rfl) rfl rfl) | apply Trace.pu [_] (.loadLoc1 ty23 (.plain rfl) rfl rfl) | apply Trace.pu [] (.loadRp1 ty23 (.plain rfl) rfl) | apply Trace.pu [_] (.loadCol1 ty23 (.plain rfl) rfl rfl rfl (fun _ => by omega))
      apply Trace.pu [] (.move (.plain rfl))
      apply Trace.pu [] ((Pure.indexRows el23 (.plain rfl) (.plain rfl) (fun _ => ⟨by omega, by omega⟩)).to (y := .rp e.ds) (by show AV.rp (g.es.getD i default).ds = _; rw [he]))
      apply Trace.pu [] (.fieldAddr fl34_2 (.plain rfl) rfl)
      first | apply Trace.pu [_] (.loadLoc1D ty3 (.plain rfl) rfl rfl) | apply Trace.pu [_] (.loadLoc1 ty3 (.plain rfl) rfl rfl) | apply Trace.pu [] (.loadRp1 ty3 (.plain rfl) rfl) | apply Trace.pu [_] (.loadCol1 ty3 (.plain rfl) rfl rfl rfl (fun _ => by omega))
      apply Trace.buildSlice 19 [] so22 zo3 rfl (by decide) (by decide) (.cons (.plain rfl) rfl rfl (Nat.le_of_ble_eq_true rfl) (.nil _ _)) rfl rfl rfl
      apply Trace.append 20 [bk 90, bk 19, sl 12, sl 19, sl 3] ap22 kd22 (by decide) (.own (.plain rfl) rfl) (.own (.plain rfl) rfl) (Col.ones rfl) (labs_ok rfl) (by omega) (by omega) rfl rfl
      apply Trace.pu [] (.assign (.plain rfl))
      exact .nil _
    · exact keepOK_of hk hn rfl
    refine WPA.ghost (Ghost.swap 90 20 (by rw [hk]; decide) (by rw [hk]; decide) rfl) ?_
    apply WPA.region
    · apply Trace.pu [] (.move (.plain rfl))
      apply Trace.pu [] (.arith (.plain rfl) (.plain rfl) rfl (fun _ => bd64 (by omega)))
      apply Trace.pu [] (.assign (.plain rfl))
      exact .nil _
    · exact keepOK_of hk hn rfl
    exact ⟨i + 1, by omega, by omega, St.le_cons rfl (St.le_cons rfl (St.le_cons (slI (by omega)) (St.le_cons rfl (St.le_cons (app_eq64 hws.symm) (St.le_nil _)))))⟩
  · have him : i = g.es.length := by
      have : ¬ ((i : Int) < g.es.length) := by simpa using hc1
      omega
    subst him
    refine WPA.weaken (T := [(sl 3, .av (.own 90 g.es.length)), (bk 90, .blk (.app 1 g.es.length [.ints .i64 g.ws]))]) ?_ (St.le_cons rfl (St.le_cons (app_eq64 (wsP_end g)) (St.le_nil _)))
    apply WPA.exit
    apply WPA.seq
    apply WPA.region
    · apply Trace.pu [] (.move (.plain rfl))
      apply Trace.pu [] (.assign (.plain rfl))
      exact .nil _
    · exact keepOK_of hk hn rfl
    apply WPA.ret
    refine ⟨.inr rfl, ⟨_, (.cons (.tmp rfl) .nil), ?_⟩, blks_of (.cons rfl .nil)⟩
    rfl

/-- soundpost/soundpostref24.Cheapest -/
theorem spec43 {g : Gr} (hok : g.OK) (hsh : g.short = false) (ht : g.Tiny) {pl : List Int} (hat : AtOK g pl) (hlow : Low40 g (fn pl)) {M : Int} {K : Nat} {r : List Int} (hK : g.mkR (fn pl) K g.ws = some r) : FnSpec Try.prog 43 [g.av, .d (.agg [intsD pl, intsD (g.delTo pl g.es.length), .v (.int .i64 M)])] [] (.d (intsD r)) [] [] := by
  have hn1 := hok.n
  have hn2 := hok.m
  have hn40 := ht.n
  have hm100 := ht.m
  refine fnSpec_of (rs := [.tmp 4]) Try.func43 rfl rfl (Nat.le_of_ble_eq_true rfl) (by simp [St.get]) fun E hk hn => ?_
  apply WPA.seq
  apply WPA.region
  · first | apply Trace.boxD 2 [] (.plain rfl) rfl rfl | apply Trace.box 2 [] (.plain rfl) rfl rfl rfl
    first | apply Trace.boxD 3 [] (.plain rfl) rfl rfl | apply Trace.box 3 [] (.plain rfl) rfl rfl rfl
    apply Trace.pu [] (.assign (.plain rfl))
    exact .nil _
  · exact keepOK_of hk hn rfl
  apply WPA.seq
  apply WPA.region
  · first | apply Trace.pu [_] (.loadAllD ty25 (.plain rfl) rfl (by simp)) | apply Trace.pu [_] (.loadLocD ty25 (.plain rfl) rfl (fun _ => by simp)) | apply Trace.pu [_] (.loadLoc ty25 (.plain rfl) rfl (fun _ => Nat.le_of_ble_eq_true rfl)) | apply Trace.pu [] (.loadRp ty25 (.plain rfl) (fun _ => by decide)) | apply Trace.pu [] (.loadRp ty25 (.plain rfl) (fun _ => Nat.le_of_ble_eq_true rfl)) | apply Trace.pu [_] (.loadCol ty25 (.plain rfl) rfl rfl (fun _ => by decide) (fun _ => by omega)) | apply Trace.pu [_] (.loadArr ty25 (.plain rfl) rfl)
    apply Trace.cb [90] [] (callArgs0 (.cons (.plain rfl) .nil)) (weO hok) en24 .nil rfl rfl
    apply Trace.pu [] (.assign (.plain rfl))
    exact .nil _
  · exact keepOK_of hk hn rfl
  apply WPA.block
  refine WPA.loop (σ := Nat × List Int) (fun y => [(sl 2, .av (.loc 2 0)), (sl 3, .av (.loc 3 0)), (sl 5, .av (.own 90 g.es.length)), (bk 2, .blk (.data g.ds)), (bk 3, .blk (.data [intsD pl, intsD (g.delTo pl g.es.length), .v (.int .i64 M)])), (bk 90, .blk (.app 1 g.es.length [.ints .i64 (y.2)]))]) (fun y => g.mkR (fn pl) y.1 y.2 = some r ∧ Flow g y.2) (fun y => y.1) (K, g.ws) (St.le_cons rfl (St.le_cons rfl (St.le_cons rfl (St.le_cons rfl (St.le_cons rfl (St.le_cons rfl (St.le_nil _))))))) ⟨hK, flow_ws hok⟩ fun y hy => ?_
  obtain ⟨k, fl⟩ := y
  obtain ⟨hmk, hf⟩ := hy
  have hf : Flow g fl := hf
  have hmk : g.mkR (fn pl) k fl = some r := hmk
  have hfl := hf.len
  have hN := netD_ok hok hlow fl
  have hnl : (g.netD (fn pl) fl).as.length ≤ 2 * g.es.length := netC_len _ _ _ _
  have hns : ∀ a ∈ (g.netD (fn pl) fl).as, a.s ≠ 0 := fun a ha h0 => by have := netC_s ha; rw [h0] at this; split at this <;> omega
  have hcyc : FnSpec Try.prog 56 [iv .i64 g.lat.length, .d (arcsND (g.netD (fn pl) fl).as)] [] (.d (intsD (g.netD (fn pl) fl).cycR)) [] [] := spec56 hN (netD_T hn40 hm100 _ _) (netD_B _ _ _) (by show CB ≤ _; decide) (by show g.lat.length ≤ _; omega) (by omega) hns
  apply WPA.block
  apply WPA.seq
  apply WPA.region
  · first | apply Trace.pu [_] (.loadAllD ty25 (.plain rfl) rfl (by simp)) | apply Trace.pu [_] (.loadLocD ty25 (.plain rfl) rfl (fun _ => by simp)) | apply Trace.pu [_] (.loadLoc ty25 (.plain rfl) rfl (fun _ => Nat.le_of_ble_eq_true rfl)) | apply Trace.pu [] (.loadRp ty25 (.plain rfl) (fun _ => by decide)) | apply Trace.pu [] (.loadRp ty25 (.plain rfl) (fun _ => Nat.le_of_ble_eq_true rfl)) | apply Trace.pu [_] (.loadCol ty25 (.plain rfl) rfl rfl (fun _ => by decide) (fun _ => by omega)) | apply Trace.pu [_] (.loadArr ty25 (.plain rfl) rfl)
    first | apply Trace.pu [_] (.loadAllD ty28 (.plain rfl) rfl (by simp)) | apply Trace.pu [_] (.loadLocD ty28 (.plain rfl) rfl (fun _ => by simp)) | apply Trace.pu [_] (.loadLoc ty28 (.plain rfl) rfl (fun _ => Nat.le_of_ble_eq_true rfl)) | apply Trace.pu [] (.loadRp ty28 (.plain rfl) (fun _ => by decide)) | apply Trace.pu [] (.loadRp ty28 (.plain rfl) (fun _ => Nat.le_of_ble_eq_true rfl)) | apply Trace.pu [_] (.loadCol ty28 (.plain rfl) rfl rfl (fun _ => by decide) (fun _ => by omega)) | apply Trace.pu [_] (.loadArr ty28 (.plain rfl) rfl)
    apply Trace.pu [] (.move (.plain rfl))
    apply Trace.cb [] [bk 90] (callArgs0 (.cons (.plain rfl) (.cons (.plain rfl) (.cons (.plain rfl) .nil)))) ((spec55 hok hat hf.len).as 0 90 rfl rfl rfl rfl rfl rfl rfl) en55 (.cons rfl .nil) rfl rfl
    apply Trace.pu [] (.assign (.plain rfl))
    exact .nil _
  · exact keepOK_of hk hn rfl
  apply WPA.seq
  apply WPA.region
  · apply Trace.pu [] (.fieldAddr fl25_0 (.plain rfl) rfl)
    first | apply Trace.pu [_] (.loadLoc1D ty22 (.plain rfl) rfl rfl) | apply Trace.pu [_] (.loadLoc1 ty22 (.plain rfl) rfl rfl) | apply Trace.pu [] (.loadRp1 ty22 (.plain rfl) rfl) | apply Trace.pu [_] (.loadCol1 ty22 (.plain rfl) rfl rfl rfl (fun _ => by omega))
    apply Trace.pu [] (.len rfl Try.underlying22 (.plain rfl) rfl)
    apply Trace.pu [] (.move (.plain rfl))
    apply Trace.cu (callArgs0 (.cons (.plain rfl) (.cons (.plain rfl) .nil))) hcyc en56
    apply Trace.pu [] (.assign (.plain rfl))
    exact .nil _
  · exact keepOK_of hk hn rfl
  apply WPA.seq
  apply WPA.seq
  rcases Decidable.em (((g.netD (fn pl) fl).stt g.lat.length).node < 0) with hq | hq
  · have hSv : (g.netD (fn pl) fl).cycR = [] := if_pos hq
    have hE : fl = r := by
      cases k with
      | zero => cases hmk
      | succ k =>
        have hmk : (if ((g.netD (fn pl) fl).stt g.lat.length).node < 0 then some fl else g.mkR (fn pl) k (g.csend fl (g.netD (fn pl) fl).cycN)) = some r := hmk
        rw [if_pos hq] at hmk
        injection hmk
    refine WPA.weaken (T := [(sl 2, .av (.loc 2 0)), (sl 3, .av (.loc 3 0)), (sl 5, .av (.own 90 g.es.length)), (bk 2, .blk (.data g.ds)), (bk 3, .blk (.data [intsD pl, intsD (g.delTo pl g.es.length), .v (.int .i64 M)])), (sl 6, .av (.d (arcsND (g.netD (fn pl) fl).as))), (sl 7, .av (.d (intsD []))), (bk 90, .blk (.app 1 g.es.length [.ints .i64 (fl)]))]) ?_ (St.le_cons rfl (St.le_cons rfl (St.le_cons rfl (St.le_cons rfl (St.le_cons rfl (St.le_cons rfl (St.le_cons (d_eq (by rw [hSv])) (St.le_cons rfl (St.le_nil _)))))))))
    apply WPA.region
    · apply Trace.pu [] (.move (.plain rfl))
      apply Trace.pu [] (.len rfl Try.underlying22 (.plain rfl) rfl)
      apply Trace.pu [] (.cmp (.plain rfl) (.plain rfl) rfl)
      exact .nil _
    · exact keepOK_of hk hn rfl
    refine WPA.cond rfl (fun hc1 => ?_) (fun hc1 => ?_)
    · apply WPA.seq
      subst hE
      refine WPA.ghost (Ghost.freezeAs (t := 5) (l := 90) (g := fun k => [Col.at (.ints .i64 fl) k]) rfl rfl (fun k hk => rfl)) ?_
      apply WPA.region
      · apply Trace.pu [] (.move (.plain rfl))
        apply Trace.pu [] (.assign (.plain rfl))
        exact .nil _
      · exact keepOK_of hk hn rfl
      apply WPA.ret
      refine ⟨.inr rfl, ⟨_, (.cons (.tmp rfl) .nil), ?_⟩, by simp [St.get]⟩
      rw [intsD, hfl]; rfl
    · cases hc1
  · obtain ⟨k', hk', hmk'⟩ : ∃ k', k = k' + 1 ∧ g.mkR (fn pl) k' (g.csend fl (g.netD (fn pl) fl).cycN) = some r := by
      cases k with
      | zero => cases hmk
      | succ k =>
        have hmk : (if ((g.netD (fn pl) fl).stt g.lat.length).node < 0 then some fl else g.mkR (fn pl) k (g.csend fl (g.netD (fn pl) fl).cycN)) = some r := hmk
        rw [if_neg hq] at hmk
        exact ⟨k, rfl, hmk⟩
    have hcy : NCyc (g.netD (fn pl) fl) (g.netD (fn pl) fl).cycN := ncyc_n hN hq
    obtain ⟨hdl, hdc⟩ := cycR_at hN hns hq
    obtain ⟨c, hc⟩ : ∃ c, (g.netD (fn pl) fl).cycN = c := ⟨_, rfl⟩
    obtain ⟨d, hd⟩ : ∃ d, (g.netD (fn pl) fl).cycR = d := ⟨_, rfl⟩
    rw [hc] at hcy hmk' hdl hdc
    rw [hd] at hdl hdc
    obtain ⟨hr1, hr2, hflow', _⟩ := csend_step hok hsh hf hcy
    have hcm := ncyc_map hcy
    have hcl : 0 < c.length ∧ c.length ≤ g.lat.length := hcy.len
    have hnn := hok.n
    refine WPA.weaken (T := [(sl 2, .av (.loc 2 0)), (sl 3, .av (.loc 3 0)), (sl 5, .av (.own 90 g.es.length)), (bk 2, .blk (.data g.ds)), (bk 3, .blk (.data [intsD pl, intsD (g.delTo pl g.es.length), .v (.int .i64 M)])), (sl 6, .av (.d (arcsND (g.netD (fn pl) fl).as))), (sl 7, .av (.d (intsD d))), (bk 90, .blk (.app 1 g.es.length [.ints .i64 (fl)]))]) ?_ (St.le_cons rfl (St.le_cons rfl (St.le_cons rfl (St.le_cons rfl (St.le_cons rfl (St.le_cons rfl (St.le_cons (d_eq (by rw [hd])) (St.le_cons rfl (St.le_nil _)))))))))
    apply WPA.region
    · apply Trace.pu [] (.move (.plain rfl))
      apply Trace.pu [] (.len rfl Try.underlying22 (.plain rfl) rfl)
      apply Trace.pu [] (.cmp (.plain rfl) (.plain rfl) rfl)
      exact .nil _
    · exact keepOK_of hk hn rfl
    refine WPA.cond rfl (fun hc2 => ?_) (fun hc2 => ?_)
    · have : (d.length : Int) = 0 := of_decide_eq_true hc2
      omega
    · apply WPA.skip
      apply WPA.seq
      apply WPA.region
      · apply Trace.pu [] (.assign (.plain rfl))
        exact .nil _
      · exact keepOK_of hk hn rfl
      apply WPA.seq
      apply WPA.seq
      apply WPA.region
      · apply Trace.pu [] (.assign (.plain rfl))
        exact .nil _
      · exact keepOK_of hk hn rfl
      apply WPA.block
      refine WPA.loop (σ := Nat) (fun i => [(sl 2, .av (.loc 2 0)), (sl 3, .av (.loc 3 0)), (sl 5, .av (.own 90 g.es.length)), (bk 2, .blk (.data g.ds)), (bk 3, .blk (.data [intsD pl, intsD (g.delTo pl g.es.length), .v (.int .i64 M)])), (sl 6, .av (.d (arcsND (g.netD (fn pl) fl).as))), (sl 7, .av (.d (intsD d))), (sl 8, .av (iv .i64 (roomTo fl c i))), (sl 9, .av (iv .i64 (i))), (bk 90, .blk (.app 1 g.es.length [.ints .i64 (fl)]))]) (fun i => i ≤ c.length) (fun i => c.length - i) 0
        (St.le_cons rfl (St.le_cons rfl (St.le_cons rfl (St.le_cons rfl (St.le_cons rfl (St.le_cons rfl (St.le_cons rfl (St.le_cons rfl (St.le_cons rfl (St.le_cons rfl (St.le_nil _))))))))))) (Nat.zero_le _) fun i hi => ?_
      apply WPA.seq
      apply WPA.seq
      apply WPA.region
      · apply Trace.pu [] (.move (.plain rfl))
        apply Trace.pu [] (.move (.plain rfl))
        apply Trace.pu [] (.len rfl Try.underlying22 (.plain rfl) rfl)
        apply Trace.pu [] (.cmp (.plain rfl) (.plain rfl) rfl)
        exact .nil _
      · exact keepOK_of hk hn rfl
      refine WPA.cond rfl (fun hc3 => ?_) (fun hc3 => ?_)
      · have hlt : i < c.length := by
          have : ((i : Int) < d.length) := by simpa using hc3
          omega
        obtain ⟨a, ha⟩ : ∃ a, c.getD i default = a := ⟨_, rfl⟩
        have ham : a ∈ (g.netD (fn pl) fl).as := ha ▸ hcy.mem i hlt
        obtain ⟨he1, he2, _, hbk⟩ := netC_arc ham
        have has := netC_s ham
        have hfb := hf.pos _ he1
        have hfb2 := flow_bd hok hsh ht.small hf he1
        unfold fn at hfb hfb2
        have hfl := hf.len
        obtain ⟨hd1, hd2, hd3⟩ := hdc i hlt
        have hd1' : 0 ≤ d.getD ((i : Nat) : Int).toNat 0 := hd1
        have hd2' : (d.getD ((i : Nat) : Int).toNat 0).toNat < (g.netD (fn pl) fl).as.length := hd2
        have hrs := roomTo_succ (fl := fl) hlt
        rw [ha] at hrs
        apply WPA.skip
        apply WPA.seq
        apply WPA.block
        apply WPA.seq
        apply WPA.region
        · apply Trace.pu [] (.move (.plain rfl))
          apply Trace.pu [] (.move (.plain rfl))
          apply Trace.pu [] (.move (.plain rfl))
          first | apply Trace.pu [] (.indexRows el22 (.plain rfl) (.plain rfl) (fun _ => ⟨by omega, by omega⟩)) | apply Trace.pu [] (.indexOwn el22 (.plain rfl) (.plain rfl) (fun _ => ⟨by omega, by omega⟩)) | apply Trace.pu [] (.indexSl el22 (.plain rfl) (.plain rfl) (fun _ => ⟨by omega, by omega⟩))
          first | apply Trace.pu [_] (.loadLoc1D ty3 (.plain rfl) rfl rfl) | apply Trace.pu [_] (.loadLoc1 ty3 (.plain rfl) rfl rfl) | apply Trace.pu [] (.loadRp1 ty3 (.plain rfl) rfl) | apply Trace.pu [_] (.loadCol1 ty3 (.plain rfl) rfl rfl rfl (fun _ => by omega))
          apply Trace.pu [] ((Pure.indexRows el81 (.plain rfl) (.plain rfl) (fun _ => ⟨by omega, by omega⟩)).to (y := .rp a.dsN) (by show AV.rp ((arcColsN (g.netD (fn pl) fl).as).map (Col.at · (d.getD i 0).toNat)) = _; rw [arc_rowN hd2, hd3, ha]))
          apply Trace.pu [] (.fieldAddr fl85_4 (.plain rfl) rfl)
          first | apply Trace.pu [_] (.loadLoc1D ty3 (.plain rfl) rfl rfl) | apply Trace.pu [_] (.loadLoc1 ty3 (.plain rfl) rfl rfl) | apply Trace.pu [] (.loadRp1 ty3 (.plain rfl) rfl) | apply Trace.pu [_] (.loadCol1 ty3 (.plain rfl) rfl rfl rfl (fun _ => by omega))
          apply Trace.pu [] (.cmp (.plain rfl) (.plain rfl) rfl)
          exact .nil _
        · exact keepOK_of hk hn rfl
        refine WPA.cond rfl (fun hc4 => ?_) (fun hc4 => ?_)
        · have hab : a.b = true := by
            have h9 : a.s < 0 := of_decide_eq_true hc4
            cases h8 : a.b with
            | true => rfl
            | false => rw [h8] at has; simp at has; omega
          rw [if_pos hab] at hrs
          apply WPA.region
          · apply Trace.pu [] (.move (.plain rfl))
            apply Trace.pu [] (.move (.plain rfl))
            apply Trace.pu [] (.move (.plain rfl))
            apply Trace.pu [] (.move (.plain rfl))
            apply Trace.pu [] (.move (.plain rfl))
            first | apply Trace.pu [] (.indexRows el22 (.plain rfl) (.plain rfl) (fun _ => ⟨by omega, by omega⟩)) | apply Trace.pu [] (.indexOwn el22 (.plain rfl) (.plain rfl) (fun _ => ⟨by omega, by omega⟩)) | apply Trace.pu [] (.indexSl el22 (.plain rfl) (.plain rfl) (fun _ => ⟨by omega, by omega⟩))
            first | apply Trace.pu [_] (.loadLoc1D ty3 (.plain rfl) rfl rfl) | apply Trace.pu [_] (.loadLoc1 ty3 (.plain rfl) rfl rfl) | apply Trace.pu [] (.loadRp1 ty3 (.plain rfl) rfl) | apply Trace.pu [_] (.loadCol1 ty3 (.plain rfl) rfl rfl rfl (fun _ => by omega))
            apply Trace.pu [] ((Pure.indexRows el81 (.plain rfl) (.plain rfl) (fun _ => ⟨by omega, by omega⟩)).to (y := .rp a.dsN) (by show AV.rp ((arcColsN (g.netD (fn pl) fl).as).map (Col.at · (d.getD i 0).toNat)) = _; rw [arc_rowN hd2, hd3, ha]))
            apply Trace.pu [] (.fieldAddr fl85_0 (.plain rfl) rfl)
            first | apply Trace.pu [_] (.loadLoc1D ty3 (.plain rfl) rfl rfl) | apply Trace.pu [_] (.loadLoc1 ty3 (.plain rfl) rfl rfl) | apply Trace.pu [] (.loadRp1 ty3 (.plain rfl) rfl) | apply Trace.pu [_] (.loadCol1 ty3 (.plain rfl) rfl rfl rfl (fun _ => by omega))
            first | apply Trace.pu [] (.indexRows el22 (.plain rfl) (.plain rfl) (fun _ => ⟨by omega, by omega⟩)) | apply Trace.pu [] (.indexOwn el22 (.plain rfl) (.plain rfl) (fun _ => ⟨by omega, by omega⟩)) | apply Trace.pu [] (.indexSl el22 (.plain rfl) (.plain rfl) (fun _ => ⟨by omega, by omega⟩))
            first | apply Trace.pu [_] (.loadLoc1D ty3 (.plain rfl) rfl rfl) | apply Trace.pu [_] (.loadLoc1 ty3 (.plain rfl) rfl rfl) | apply Trace.pu [] (.loadRp1 ty3 (.plain rfl) rfl) | apply Trace.pu [_] (.loadCol1 ty3 (.plain rfl) rfl rfl rfl (fun _ => by omega))
            apply Trace.pu [] (.min2 (.plain rfl) (.plain rfl))
            apply Trace.pu [] (.assign (.plain rfl))
            exact .nil _
          · exact keepOK_of hk hn rfl
          apply WPA.region
          · apply Trace.pu [] (.move (.plain rfl))
            apply Trace.pu [] (.arith (.plain rfl) (.plain rfl) rfl (fun _ => bd64 (by omega)))
            apply Trace.pu [] (.assign (.plain rfl))
            exact .nil _
          · exact keepOK_of hk hn rfl
          exact ⟨i + 1, by omega, by omega, St.le_cons rfl (St.le_cons rfl (St.le_cons rfl (St.le_cons rfl (St.le_cons rfl (St.le_cons rfl (St.le_cons rfl (St.le_cons (slI hrs.symm) (St.le_cons (slI (by omega)) (St.le_cons rfl (St.le_nil _))))))))))⟩
        · have hab : ¬ a.b = true := fun h8 => by
            have h9 : ¬ a.s < 0 := of_decide_eq_false hc4
            rw [h8] at has; simp at has; omega
          rw [if_neg hab] at hrs
          apply WPA.skip
          apply WPA.region
          · apply Trace.pu [] (.move (.plain rfl))
            apply Trace.pu [] (.arith (.plain rfl) (.plain rfl) rfl (fun _ => bd64 (by omega)))
            apply Trace.pu [] (.assign (.plain rfl))
            exact .nil _
          · exact keepOK_of hk hn rfl
          exact ⟨i + 1, by omega, by omega, St.le_cons rfl (St.le_cons rfl (St.le_cons rfl (St.le_cons rfl (St.le_cons rfl (St.le_cons rfl (St.le_cons rfl (St.le_cons (slI hrs.symm) (St.le_cons (slI (by omega)) (St.le_cons rfl (St.le_nil _))))))))))⟩
      · have hin : i = c.length := by
          have : ¬ ((i : Int) < d.length) := by simpa using hc3
          omega
        subst hin
        apply WPA.exit
        apply WPA.seq
        apply WPA.region
        · apply Trace.pu [] (.assign (.plain rfl))
          exact .nil _
        · exact keepOK_of hk hn rfl
        apply WPA.block
        refine WPA.loop (σ := Nat) (fun i => [(sl 2, .av (.loc 2 0)), (sl 3, .av (.loc 3 0)), (sl 5, .av (.own 90 g.es.length)), (bk 2, .blk (.data g.ds)), (bk 3, .blk (.data [intsD pl, intsD (g.delTo pl g.es.length), .v (.int .i64 M)])), (sl 6, .av (.d (arcsND (g.netD (fn pl) fl).as))), (sl 7, .av (.d (intsD d))), (sl 8, .av (iv .i64 (roomTo fl c c.length))), (sl 10, .av (iv .i64 (i))), (bk 90, .blk (.app 1 g.es.length [.ints .i64 (pushTo (roomTo fl c c.length) fl c i)]))]) (fun i => i ≤ c.length) (fun i => c.length - i) 0
          (St.le_cons rfl (St.le_cons rfl (St.le_cons rfl (St.le_cons rfl (St.le_cons rfl (St.le_cons rfl (St.le_cons rfl (St.le_cons rfl (St.le_cons rfl (St.le_cons rfl (St.le_nil _))))))))))) (Nat.zero_le _) fun i hi => ?_
        apply WPA.seq
        apply WPA.seq
        apply WPA.region
        · apply Trace.pu [] (.move (.plain rfl))
          apply Trace.pu [] (.move (.plain rfl))
          apply Trace.pu [] (.len rfl Try.underlying22 (.plain rfl) rfl)
          apply Trace.pu [] (.cmp (.plain rfl) (.plain rfl) rfl)
          exact .nil _
        · exact keepOK_of hk hn rfl
        refine WPA.cond rfl (fun hc5 => ?_) (fun hc5 => ?_)
        · have hlt : i < c.length := by
            have : ((i : Int) < d.length) := by simpa using hc5
            omega
          obtain ⟨a, ha⟩ : ∃ a, c.getD i default = a := ⟨_, rfl⟩
          have ham : a ∈ (g.netD (fn pl) fl).as := ha ▸ hcy.mem i hlt
          obtain ⟨he1, he2, _, hbk⟩ := netC_arc ham
          have has := netC_s ham
          have hfb := hf.pos _ he1
          have hfb2 := flow_bd hok hsh ht.small hf he1
          unfold fn at hfb hfb2
          have hfl := hf.len
          obtain ⟨hd1, hd2, hd3⟩ := hdc i hlt
          have hd1' : 0 ≤ d.getD ((i : Nat) : Int).toNat 0 := hd1
          have hd2' : (d.getD ((i : Nat) : Int).toNat 0).toNat < (g.netD (fn pl) fl).as.length := hd2
          have hpi := pinv hcm hf.len (n := roomTo fl c c.length) (Int.le_of_lt hr1) i (by rw [List.length_map]; exact hi)
          have hp1 := hpi.lo _ he1
          have hp2 := hpi.hi _ he1
          have hpl2 := hpi.len
          unfold fn at hp1 hp2
          rw [push_map hcy _ i hi] at hp1 hp2 hpl2
          have hps := pushTo_succ (n := roomTo fl c c.length) (fl := fl) hlt
          rw [ha, push1_s has] at hps
          have hsr : -1048576 ≤ a.s * roomTo fl c c.length ∧ a.s * roomTo fl c c.length ≤ 1048576 := by
            rw [has]; split <;> omega
          apply WPA.skip
          apply WPA.seq
          apply WPA.block
          apply WPA.draw mixed
          · apply Trace.pu [] (.move (.plain rfl))
            apply Trace.pu [] (.move (.plain rfl))
            apply Trace.pu [] (.move (.plain rfl))
            apply Trace.pu [] (.move (.plain rfl))
            first | apply Trace.pu [] (.indexRows el22 (.plain rfl) (.plain rfl) (fun _ => ⟨by omega, by omega⟩)) | apply Trace.pu [] (.indexOwn el22 (.plain rfl) (.plain rfl) (fun _ => ⟨by omega, by omega⟩)) | apply Trace.pu [] (.indexSl el22 (.plain rfl) (.plain rfl) (fun _ => ⟨by omega, by omega⟩))
            first | apply Trace.pu [_] (.loadLoc1D ty3 (.plain rfl) rfl rfl) | apply Trace.pu [_] (.loadLoc1 ty3 (.plain rfl) rfl rfl) | apply Trace.pu [] (.loadRp1 ty3 (.plain rfl) rfl) | apply Trace.pu [_] (.loadCol1 ty3 (.plain rfl) rfl rfl rfl (fun _ => by omega))
            apply Trace.pu [] ((Pure.indexRows el81 (.plain rfl) (.plain rfl) (fun _ => ⟨by omega, by omega⟩)).to (y := .rp a.dsN) (by show AV.rp ((arcColsN (g.netD (fn pl) fl).as).map (Col.at · (d.getD i 0).toNat)) = _; rw [arc_rowN hd2, hd3, ha]))
            apply Trace.pu [] (.fieldAddr fl85_0 (.plain rfl) rfl)
            first | apply Trace.pu [_] (.loadLoc1D ty3 (.plain rfl) rfl rfl) | apply Trace.pu [_] (.loadLoc1 ty3 (.plain rfl) rfl rfl) | apply Trace.pu [] (.loadRp1 ty3 (.plain rfl) rfl) | apply Trace.pu [_] (.loadCol1 ty3 (.plain rfl) rfl rfl rfl (fun _ => by omega))
            apply Trace.pu [] (.move (.plain rfl))
            apply Trace.pu [] (.move (.plain rfl))
            apply Trace.pu [] (.move (.plain rfl))
            apply Trace.pu [] (.move (.plain rfl))
            first | apply Trace.pu [] (.indexRows el22 (.plain rfl) (.plain rfl) (fun _ => ⟨by omega, by omega⟩)) | apply Trace.pu [] (.indexOwn el22 (.plain rfl) (.plain rfl) (fun _ => ⟨by omega, by omega⟩)) | apply Trace.pu [] (.indexSl el22 (.plain rfl) (.plain rfl) (fun _ => ⟨by omega, by omega⟩))
            first | apply Trace.pu [_] (.loadLoc1D ty3 (.plain rfl) rfl rfl) | apply Trace.pu [_] (.loadLoc1 ty3 (.plain rfl) rfl rfl) | apply Trace.pu [] (.loadRp1 ty3 (.plain rfl) rfl) | apply Trace.pu [_] (.loadCol1 ty3 (.plain rfl) rfl rfl rfl (fun _ => by omega))
            apply Trace.pu [] ((Pure.indexRows el81 (.plain rfl) (.plain rfl) (fun _ => ⟨by omega, by omega⟩)).to (y := .rp a.dsN) (by show AV.rp ((arcColsN (g.netD (fn pl) fl).as).map (Col.at · (d.getD i 0).toNat)) = _; rw [arc_rowN hd2, hd3, ha]))
            apply Trace.pu [] (.fieldAddr fl85_0 (.plain rfl) rfl)
            first | apply Trace.pu [_] (.loadLoc1D ty3 (.plain rfl) rfl rfl) | apply Trace.pu [_] (.loadLoc1 ty3 (.plain rfl) rfl rfl) | apply Trace.pu [] (.loadRp1 ty3 (.plain rfl) rfl) | apply Trace.pu [_] (.loadCol1 ty3 (.plain rfl) rfl rfl rfl (fun _ => by omega))
            first | apply Trace.pu [] (.indexRows el22 (.plain rfl) (.plain rfl) (fun _ => ⟨by omega, by omega⟩)) | apply Trace.pu [] (.indexOwn el22 (.plain rfl) (.plain rfl) (fun _ => ⟨by omega, by omega⟩)) | apply Trace.pu [] (.indexSl el22 (.plain rfl) (.plain rfl) (fun _ => ⟨by omega, by omega⟩))
            first | apply Trace.pu [_] (.loadLoc1D ty3 (.plain rfl) rfl rfl) | apply Trace.pu [_] (.loadLoc1 ty3 (.plain rfl) rfl rfl) | apply Trace.pu [] (.loadRp1 ty3 (.plain rfl) rfl) | apply Trace.pu [_] (.loadCol1 ty3 (.plain rfl) rfl rfl rfl (fun _ => by omega))
            apply Trace.pu [] (.move (.plain rfl))
            apply Trace.pu [] (.move (.plain rfl))
            apply Trace.pu [] (.move (.plain rfl))
            first | apply Trace.pu [] (.indexRows el22 (.plain rfl) (.plain rfl) (fun _ => ⟨by omega, by omega⟩)) | apply Trace.pu [] (.indexOwn el22 (.plain rfl) (.plain rfl) (fun _ => ⟨by omega, by omega⟩)) | apply Trace.pu [] (.indexSl el22 (.plain rfl) (.plain rfl) (fun _ => ⟨by omega, by omega⟩))
            first | apply Trace.pu [_] (.loadLoc1D ty3 (.plain rfl) rfl rfl) | apply Trace.pu [_] (.loadLoc1 ty3 (.plain rfl) rfl rfl) | apply Trace.pu [] (.loadRp1 ty3 (.plain rfl) rfl) | apply Trace.pu [_] (.loadCol1 ty3 (.plain rfl) rfl rfl rfl (fun _ => by omega))
            apply Trace.pu [] ((Pure.indexRows el81 (.plain rfl) (.plain rfl) (fun _ => ⟨by omega, by omega⟩)).to (y := .rp a.dsN) (by show AV.rp ((arcColsN (g.netD (fn pl) fl).as).map (Col.at · (d.getD i 0).toNat)) = _; rw [arc_rowN hd2, hd3, ha]))
            apply Trace.pu [] (.fieldAddr fl85_4 (.plain rfl) rfl)
            first | apply Trace.pu [_] (.loadLoc1D ty3 (.plain rfl) rfl rfl) | apply Trace.pu [_] (.loadLoc1 ty3 (.plain rfl) rfl rfl) | apply Trace.pu [] (.loadRp1 ty3 (.plain rfl) rfl) | apply Trace.pu [_] (.loadCol1 ty3 (.plain rfl) rfl rfl rfl (fun _ => by omega))
            apply Trace.pu [] (.move (.plain rfl))
            apply Trace.pu [] (.arith (.plain rfl) (.plain rfl) rfl (fun _ => bd64 (by omega)))
            apply Trace.pu [] (.arith (.plain rfl) (.plain rfl) rfl (fun _ => bd64 (by omega)))
            first | apply Trace.pu [] (.indexRows el22 (.plain rfl) (.plain rfl) (fun _ => ⟨by omega, by omega⟩)) | apply Trace.pu [] (.indexOwn el22 (.plain rfl) (.plain rfl) (fun _ => ⟨by omega, by omega⟩)) | apply Trace.pu [] (.indexSl el22 (.plain rfl) (.plain rfl) (fun _ => ⟨by omega, by omega⟩))
            first | apply Trace.storeD ty3 (.plain rfl) (.plain rfl) rfl rfl rfl (by simp [AV.oneB, single]) (Nat.le_of_ble_eq_true rfl) rfl | apply Trace.storeDA ty3 (.plain rfl) (.plain rfl) rfl rfl rfl (by simp [AV.oneB, single]) (Nat.le_of_ble_eq_true rfl) rfl | apply Trace.storeLoc ty3 (.plain rfl) (.plain rfl) rfl rfl rfl (by simp [AV.oneB, single]) (Nat.le_of_ble_eq_true rfl) rfl | apply Trace.storeRow ty3 (.plain rfl) (.plain rfl) rfl rfl rfl rfl (by decide) (by simp [AV.oneB, single]) rfl (by omega)
            exact .nil _
          · rfl
          · exact keepOK_of hk hn rfl
          apply WPA.region
          · apply Trace.pu [] (.move (.plain rfl))
            apply Trace.pu [] (.arith (.plain rfl) (.plain rfl) rfl (fun _ => bd64 (by omega)))
            apply Trace.pu [] (.assign (.plain rfl))
            exact .nil _
          · exact keepOK_of hk hn rfl
          exact ⟨i + 1, by omega, by omega, St.le_cons rfl (St.le_cons rfl (St.le_cons rfl (St.le_cons rfl (St.le_cons rfl (St.le_cons rfl (St.le_cons rfl (St.le_cons rfl (St.le_cons (slI (by omega)) (St.le_cons (app_eq64 hps.symm) (St.le_nil _))))))))))⟩
        · have hin : i = c.length := by
            have : ¬ ((i : Int) < d.length) := by simpa using hc5
            omega
          subst hin
          apply WPA.exit
          exact ⟨(k', g.csend fl c), ⟨hmk', hflow'⟩, by show k' < k; omega, St.le_cons rfl (St.le_cons rfl (St.le_cons rfl (St.le_cons rfl (St.le_cons rfl (St.le_cons rfl (St.le_nil _))))))⟩

/-- soundpost/soundpostref24.Make -/
theorem spec23 (g : Gr) (hz : g.Sz) (p : Pl) (hp : p.Sz) (ht : g.check = 0 → g.Tiny) : FnSpec Try.prog 23 [g.av, .d p.d] [] (.tup ([intsD (g.refMakeP p).1, .v (.int .i64 (g.refMakeP p).2)].map .d)) [] [] := by
  have hn1 := hz.n
  have hn2 := hz.m
  refine fnSpec_of (rs := [.tmp 4, .tmp 5]) Try.func23 rfl rfl (Nat.le_of_ble_eq_true rfl) (by simp [St.get]) fun E hk hn => ?_
  apply WPA.seq
  apply WPA.region
  · first | apply Trace.boxD 2 [] (.plain rfl) rfl rfl | apply Trace.box 2 [] (.plain rfl) rfl rfl rfl
    first | apply Trace.boxD 3 [] (.plain rfl) rfl rfl | apply Trace.box 3 [] (.plain rfl) rfl rfl rfl
    apply Trace.pu [] (.assign (.plain rfl))
    apply Trace.pu [] (.assign (.plain rfl))
    exact .nil _
  · exact keepOK_of hk hn rfl
  apply WPA.seq
  apply WPA.region
  · first | apply Trace.pu [_] (.loadAllD ty25 (.plain rfl) rfl (by simp)) | apply Trace.pu [_] (.loadLocD ty25 (.plain rfl) rfl (fun _ => by simp)) | apply Trace.pu [_] (.loadLoc ty25 (.plain rfl) rfl (fun _ => Nat.le_of_ble_eq_true rfl)) | apply Trace.pu [] (.loadRp ty25 (.plain rfl) (fun _ => by decide)) | apply Trace.pu [] (.loadRp ty25 (.plain rfl) (fun _ => Nat.le_of_ble_eq_true rfl)) | apply Trace.pu [_] (.loadCol ty25 (.plain rfl) rfl rfl (fun _ => by decide) (fun _ => by omega)) | apply Trace.pu [_] (.loadArr ty25 (.plain rfl) rfl)
    apply Trace.cu (callArgs0 (.cons (.plain rfl) .nil)) (spec13 g hz) en13
    apply Trace.pu [] (.assign (.plain rfl))
    exact .nil _
  · exact keepOK_of hk hn rfl
  apply WPA.seq
  apply WPA.seq
  apply WPA.region
  · apply Trace.pu [] (.move (.plain rfl))
    apply Trace.pu [] (.cmp (.plain rfl) (.plain rfl) rfl)
    exact .nil _
  · exact keepOK_of hk hn rfl
  refine WPA.cond rfl (fun hc1 => ?_) (fun hc1 => ?_)
  · have hC : g.check ≠ 0 := by simpa using hc1
    have hM : g.refMakeP p = ([], g.check) := by unfold Gr.refMakeP; rw [if_pos hC]
    apply WPA.seq
    apply WPA.region
    · apply Trace.pu [] (.move (.plain rfl))
      apply Trace.pu [] (.assign (.plain rfl))
      apply Trace.pu [] (.assign (.plain rfl))
      exact .nil _
    · exact keepOK_of hk hn rfl
    refine WPA.ghost (Ghost.slot (t := 4) (x := .d (.v (.slice none 0 0))) (y := .d (intsD [])) rfl den_emp) ?_
    apply WPA.ret
    refine ⟨.inr rfl, ⟨_, (.cons (.tmp rfl) (.cons (.tmp rfl) .nil)), ?_⟩, by simp [St.get]⟩
    rw [hM]; rfl
  · have hC : g.check = 0 := by simpa using hc1
    have hok := g.ok_of (check_formed hC)
    have hsh := check_short hC
    have ht := ht hC
    apply WPA.skip
    apply WPA.seq
    apply WPA.seq
    apply WPA.region
    · first | apply Trace.pu [_] (.loadAllD ty25 (.plain rfl) rfl (by simp)) | apply Trace.pu [_] (.loadLocD ty25 (.plain rfl) rfl (fun _ => by simp)) | apply Trace.pu [_] (.loadLoc ty25 (.plain rfl) rfl (fun _ => Nat.le_of_ble_eq_true rfl)) | apply Trace.pu [] (.loadRp ty25 (.plain rfl) (fun _ => by decide)) | apply Trace.pu [] (.loadRp ty25 (.plain rfl) (fun _ => Nat.le_of_ble_eq_true rfl)) | apply Trace.pu [_] (.loadCol ty25 (.plain rfl) rfl rfl (fun _ => by decide) (fun _ => by omega)) | apply Trace.pu [_] (.loadArr ty25 (.plain rfl) rfl)
      first | apply Trace.pu [_] (.loadAllD ty28 (.plain rfl) rfl (by simp)) | apply Trace.pu [_] (.loadLocD ty28 (.plain rfl) rfl (fun _ => by simp)) | apply Trace.pu [_] (.loadLoc ty28 (.plain rfl) rfl (fun _ => Nat.le_of_ble_eq_true rfl)) | apply Trace.pu [] (.loadRp ty28 (.plain rfl) (fun _ => by decide)) | apply Trace.pu [] (.loadRp ty28 (.plain rfl) (fun _ => Nat.le_of_ble_eq_true rfl)) | apply Trace.pu [_] (.loadCol ty28 (.plain rfl) rfl rfl (fun _ => by decide) (fun _ => by omega)) | apply Trace.pu [_] (.loadArr ty28 (.plain rfl) rfl)
      apply Trace.cu (callArgs0 (.cons (.plain rfl) (.cons (.plain rfl) .nil))) (spec42 g hz p hp) en42
      apply Trace.pu [] (.not (.plain rfl))
      exact .nil _
    · exact keepOK_of hk hn rfl
    refine WPA.cond rfl (fun hc2 => ?_) (fun hc2 => ?_)
    · have hB : ¬ g.isPlan p = true := by simpa using hc2
      have hM : g.refMakeP p = ([], 230) := by unfold Gr.refMakeP; rw [if_neg (by rw [hC]; decide), if_neg hB]
      apply WPA.seq
      apply WPA.region
      · apply Trace.pu [] (.assign (.plain rfl))
        apply Trace.pu [] (.assign (.plain rfl))
        exact .nil _
      · exact keepOK_of hk hn rfl
      refine WPA.ghost (Ghost.slot (t := 4) (x := .d (.v (.slice none 0 0))) (y := .d (intsD [])) rfl den_emp) ?_
      apply WPA.ret
      refine ⟨.inr rfl, ⟨_, (.cons (.tmp rfl) (.cons (.tmp rfl) .nil)), ?_⟩, by simp [St.get]⟩
      rw [hM]; rfl
    · have hP : g.isPlan p = true := by simpa using hc2
      have hM0 : g.refMakeP p = if g.mem (fn g.best) = p.mem then (g.certR (fn p.at_), 0) else ([], 240) := by unfold Gr.refMakeP; rw [if_neg (by rw [hC]; decide), if_pos hP]
      obtain ⟨_, hpos, hpe⟩ := isPlan_iff.1 hP
      have hpm : p.mem = g.memTo p.at_ g.es.length := congrArg Pl.mem hpe
      obtain ⟨pl, hpl⟩ : ∃ x, p.at_ = x := ⟨_, rfl⟩
      rw [hpl] at hpos hpm hM0
      rw [hpm] at hM0
      have hat := posB_atOK hpos
      have hlow := posB_low hok hpos
      obtain ⟨K, hK, hfE, hbE, hsE⟩ := certR_mk hok hsh hlow
      have hn40 := ht.n
      have hm100 := ht.m
      have hsmE : ∀ i, i < g.es.length → 0 ≤ fn (g.certR (fn pl)) i ∧ fn (g.certR (fn pl)) i ≤ 1048576 := fun i hi => by
        have a := hfE.pos i hi
        have b := hsE i hi
        omega
      have hbdE := bnd_bd hok hsmE g.es.length (Nat.le_refl _)
      have hpd : p.ds = [intsD pl, intsD (g.delTo pl g.es.length), .v (.int .i64 (g.memTo pl g.es.length))] := by rw [hpe, hpl]; rfl
      have htm := tiny_mem hok ht hat
      refine WPA.weaken (T := [(sl 2, .av (.loc 2 0)), (sl 3, .av (.loc 3 0)), (bk 2, .blk (.data g.ds)), (bk 3, .blk (.data [intsD pl, intsD (g.delTo pl g.es.length), .v (.int .i64 (g.memTo pl g.es.length))]))]) ?_ (St.le_cons rfl (St.le_cons rfl (St.le_cons rfl (St.le_cons (congrArg (fun z => some (Cont.blk (.data z))) hpd) (St.le_nil _)))))
      apply WPA.skip
      apply WPA.seq
      apply WPA.region
      · first | apply Trace.pu [_] (.loadAllD ty25 (.plain rfl) rfl (by simp)) | apply Trace.pu [_] (.loadLocD ty25 (.plain rfl) rfl (fun _ => by simp)) | apply Trace.pu [_] (.loadLoc ty25 (.plain rfl) rfl (fun _ => Nat.le_of_ble_eq_true rfl)) | apply Trace.pu [] (.loadRp ty25 (.plain rfl) (fun _ => by decide)) | apply Trace.pu [] (.loadRp ty25 (.plain rfl) (fun _ => Nat.le_of_ble_eq_true rfl)) | apply Trace.pu [_] (.loadCol ty25 (.plain rfl) rfl rfl (fun _ => by decide) (fun _ => by omega)) | apply Trace.pu [_] (.loadArr ty25 (.plain rfl) rfl)
        first | apply Trace.pu [_] (.loadAllD ty28 (.plain rfl) rfl (by simp)) | apply Trace.pu [_] (.loadLocD ty28 (.plain rfl) rfl (fun _ => by simp)) | apply Trace.pu [_] (.loadLoc ty28 (.plain rfl) rfl (fun _ => Nat.le_of_ble_eq_true rfl)) | apply Trace.pu [] (.loadRp ty28 (.plain rfl) (fun _ => by decide)) | apply Trace.pu [] (.loadRp ty28 (.plain rfl) (fun _ => Nat.le_of_ble_eq_true rfl)) | apply Trace.pu [_] (.loadCol ty28 (.plain rfl) rfl rfl (fun _ => by decide) (fun _ => by omega)) | apply Trace.pu [_] (.loadArr ty28 (.plain rfl) rfl)
        apply Trace.cu (callArgs0 (.cons (.plain rfl) (.cons (.plain rfl) .nil))) (spec43 hok hsh ht hat hlow hK) en43
        apply Trace.pu [] (.assign (.plain rfl))
        exact .nil _
      · exact keepOK_of hk hn rfl
      apply WPA.seq
      apply WPA.seq
      apply WPA.draw mixed
      · first | apply Trace.pu [_] (.loadAllD ty25 (.plain rfl) rfl (by simp)) | apply Trace.pu [_] (.loadLocD ty25 (.plain rfl) rfl (fun _ => by simp)) | apply Trace.pu [_] (.loadLoc ty25 (.plain rfl) rfl (fun _ => Nat.le_of_ble_eq_true rfl)) | apply Trace.pu [] (.loadRp ty25 (.plain rfl) (fun _ => by decide)) | apply Trace.pu [] (.loadRp ty25 (.plain rfl) (fun _ => Nat.le_of_ble_eq_true rfl)) | apply Trace.pu [_] (.loadCol ty25 (.plain rfl) rfl rfl (fun _ => by decide) (fun _ => by omega)) | apply Trace.pu [_] (.loadArr ty25 (.plain rfl) rfl)
        apply Trace.pu [] (.move (.plain rfl))
        apply Trace.cu (callArgs0 (.cons (.plain rfl) (.cons (.plain rfl) .nil))) (spec41 hok hfE.len hsmE) en41
        apply Trace.pu [] (.fieldAddr fl28_2 (.plain rfl) rfl)
        first | apply Trace.pu [_] (.loadLoc1D ty3 (.plain rfl) rfl rfl) | apply Trace.pu [_] (.loadLoc1 ty3 (.plain rfl) rfl rfl) | apply Trace.pu [] (.loadRp1 ty3 (.plain rfl) rfl) | apply Trace.pu [_] (.loadCol1 ty3 (.plain rfl) rfl rfl rfl (fun _ => by omega))
        apply Trace.pu [] (.cmp (.plain rfl) (.plain rfl) rfl)
        exact .nil _
      · rfl
      · exact keepOK_of hk hn rfl
      refine WPA.cond rfl (fun hc3 => ?_) (fun hc3 => ?_)
      · have hne : ¬ g.mem (fn g.best) = g.memTo pl g.es.length := by
          rw [← hbE]
          have h9 : (!decide (g.bnd (g.certR (fn pl)) g.es.length = g.memTo pl g.es.length)) = true := hc3
          simpa using h9
        rw [if_neg hne] at hM0
        apply WPA.seq
        apply WPA.region
        · apply Trace.pu [] (.assign (.plain rfl))
          apply Trace.pu [] (.assign (.plain rfl))
          exact .nil _
        · exact keepOK_of hk hn rfl
        refine WPA.ghost (Ghost.slot (t := 4) (x := .d (.v (.slice none 0 0))) (y := .d (intsD [])) rfl den_emp) ?_
        apply WPA.ret
        refine ⟨.inr rfl, ⟨_, (.cons (.tmp rfl) (.cons (.tmp rfl) .nil)), ?_⟩, by simp [St.get]⟩
        rw [hM0]; rfl
      · have hne : g.mem (fn g.best) = g.memTo pl g.es.length := by
          rw [← hbE]
          have h9 : (!decide (g.bnd (g.certR (fn pl)) g.es.length = g.memTo pl g.es.length)) = false := hc3
          simpa using h9
        rw [if_pos hne] at hM0
        apply WPA.skip
        apply WPA.seq
        apply WPA.region
        · apply Trace.pu [] (.move (.plain rfl))
          apply Trace.pu [] (.assign (.plain rfl))
          apply Trace.pu [] (.assign (.plain rfl))
          exact .nil _
        · exact keepOK_of hk hn rfl
        apply WPA.ret
        refine ⟨.inr rfl, ⟨_, (.cons (.tmp rfl) (.cons (.tmp rfl) .nil)), ?_⟩, by simp [St.get]⟩
        rw [hM0]; rfl

theorem rmN {g : Gr} (hz : g.Sz) {p : Pl} (hp : p.Sz) (ht : g.check = 0 → g.Tiny) {l : List Int} {c : Int} (h : g.refMakeP p = (l, c)) : FnSpec Try.prog 23 [g.av, .d p.d] [] (.tup ([intsD l, .v (.int .i64 c)].map .d)) [] [] := by
  have := spec23 g hz p hp ht
  rw [h] at this
  exact this
/-- soundpost/soundpostlaw24.CertifyMakeSpec -/
theorem spec5 (g : Gr) (hz : g.Sz) (p : Pl) (hp1 : p.at_.length ≤ 4611686018427387904) (hp2 : p.del.length ≤ 4611686018427387904) : FnSpec Try.prog 5 [g.av, .d p.d] [] (bv true) [] [] := by
  have hn1 := hz.n
  have hn2 := hz.m
  refine fnSpec_of (rs := [.tmp 4]) Try.func5 rfl rfl (Nat.le_of_ble_eq_true rfl) (by simp [St.get]) fun E hk hn => ?_
  apply WPA.seq
  apply WPA.region
  · first | apply Trace.boxD 2 [] (.plain rfl) rfl rfl | apply Trace.box 2 [] (.plain rfl) rfl rfl rfl
    first | apply Trace.boxD 3 [] (.plain rfl) rfl rfl | apply Trace.box 3 [] (.plain rfl) rfl rfl rfl
    apply Trace.pu [] (.assign (.plain rfl))
    exact .nil _
  · exact keepOK_of hk hn rfl
  apply WPA.seq
  apply WPA.seq
  apply WPA.region
  · apply Trace.cu (callArgs0 .nil) spec19 en19
    apply Trace.pu [] (.not (.plain rfl))
    exact .nil _
  · exact keepOK_of hk hn rfl
  refine WPA.cond rfl (fun hc1 => ?_) (fun hc1 => ?_)
  · cases hc1
  · apply WPA.skip
    apply WPA.seq
    apply WPA.seq
    apply WPA.region
    · first | apply Trace.pu [_] (.loadAllD ty25 (.plain rfl) rfl (by simp)) | apply Trace.pu [_] (.loadLocD ty25 (.plain rfl) rfl (fun _ => by simp)) | apply Trace.pu [_] (.loadLoc ty25 (.plain rfl) rfl (fun _ => Nat.le_of_ble_eq_true rfl)) | apply Trace.pu [] (.loadRp ty25 (.plain rfl) (fun _ => by decide)) | apply Trace.pu [] (.loadRp ty25 (.plain rfl) (fun _ => Nat.le_of_ble_eq_true rfl)) | apply Trace.pu [_] (.loadCol ty25 (.plain rfl) rfl rfl (fun _ => by decide) (fun _ => by omega)) | apply Trace.pu [_] (.loadArr ty25 (.plain rfl) rfl)
      apply Trace.cu (callArgs0 (.cons (.plain rfl) .nil)) (spec20 g hz) en20
      apply Trace.pu [] (.not (.plain rfl))
      apply Trace.pu [] (.move (.plain rfl))
      apply Trace.pg [] rfl (.fieldAddr fl28_0 (.plain rfl) rfl)
      first | apply Trace.pg [_] rfl (.loadLoc1D ty22 (.gd rfl (fun h => h)) rfl rfl) | apply Trace.pg [_] rfl (.loadLoc1 ty22 (.gd rfl (fun h => h)) rfl rfl) | apply Trace.pg [] rfl (.loadRp1 ty22 (.gd rfl (fun h => h)) rfl) | apply Trace.pg [_] rfl (.loadCol1 ty22 (.gd rfl (fun h => h)) rfl rfl rfl (fun _ => by omega))
      apply Trace.pg [] rfl (.len rfl Try.underlying22 (.gd rfl (fun h => h)) rfl)
      apply Trace.pg [] rfl (.cmp (.gd rfl (fun h => h)) (.plain rfl) rfl)
      apply Trace.pu [] (.pick (.plain rfl) (.plain rfl) (.gd rfl (by simp)))
      apply Trace.pu [] (.move (.plain rfl))
      apply Trace.pg [] rfl (.fieldAddr fl28_1 (.plain rfl) rfl)
      first | apply Trace.pg [_] rfl (.loadLoc1D ty22 (.gd rfl (fun h => h)) rfl rfl) | apply Trace.pg [_] rfl (.loadLoc1 ty22 (.gd rfl (fun h => h)) rfl rfl) | apply Trace.pg [] rfl (.loadRp1 ty22 (.gd rfl (fun h => h)) rfl) | apply Trace.pg [_] rfl (.loadCol1 ty22 (.gd rfl (fun h => h)) rfl rfl rfl (fun _ => by omega))
      apply Trace.pg [] rfl (.len rfl Try.underlying22 (.gd rfl (fun h => h)) rfl)
      apply Trace.pg [] rfl (.cmp (.gd rfl (fun h => h)) (.plain rfl) rfl)
      apply Trace.pu [] (.pick (.plain rfl) (.plain rfl) (.gd rfl (by simp)))
      exact .nil _
    · exact keepOK_of hk hn rfl
    refine WPA.cond rfl (fun hc2 => ?_) (fun hc2 => ?_)
    · apply WPA.seq
      apply WPA.region
      · apply Trace.pu [] (.assign (.plain rfl))
        exact .nil _
      · exact keepOK_of hk hn rfl
      apply WPA.ret
      refine ⟨.inr rfl, ⟨_, (.cons (.tmp rfl) .nil), ?_⟩, by simp [St.get]⟩
      rfl
    · obtain ⟨hfew, hl2, hl3⟩ : g.few24 = true ∧ p.at_.length ≤ 40 ∧ p.del.length ≤ 40 := by
        have h9 : (bif (bif !g.few24 then true else decide ((40 : Int) < p.at_.length)) then true else decide ((40 : Int) < p.del.length)) = false := hc2
        rw [bif_or, bif_or, Bool.or_eq_false_iff, Bool.or_eq_false_iff, Bool.not_eq_false', decide_eq_false_iff_not, decide_eq_false_iff_not] at h9
        exact ⟨h9.1.1, by omega, by omega⟩
      have ht := (few24_tiny hfew).2.2
      have hm100 := ht.m
      have hpz : p.Sz := ⟨by omega, by omega⟩
      apply WPA.skip
      apply WPA.seq
      apply WPA.region
      · first | apply Trace.pu [_] (.loadAllD ty25 (.plain rfl) rfl (by simp)) | apply Trace.pu [_] (.loadLocD ty25 (.plain rfl) rfl (fun _ => by simp)) | apply Trace.pu [_] (.loadLoc ty25 (.plain rfl) rfl (fun _ => Nat.le_of_ble_eq_true rfl)) | apply Trace.pu [] (.loadRp ty25 (.plain rfl) (fun _ => by decide)) | apply Trace.pu [] (.loadRp ty25 (.plain rfl) (fun _ => Nat.le_of_ble_eq_true rfl)) | apply Trace.pu [_] (.loadCol ty25 (.plain rfl) rfl rfl (fun _ => by decide) (fun _ => by omega)) | apply Trace.pu [_] (.loadArr ty25 (.plain rfl) rfl)
        first | apply Trace.pu [_] (.loadAllD ty28 (.plain rfl) rfl (by simp)) | apply Trace.pu [_] (.loadLocD ty28 (.plain rfl) rfl (fun _ => by simp)) | apply Trace.pu [_] (.loadLoc ty28 (.plain rfl) rfl (fun _ => Nat.le_of_ble_eq_true rfl)) | apply Trace.pu [] (.loadRp ty28 (.plain rfl) (fun _ => by decide)) | apply Trace.pu [] (.loadRp ty28 (.plain rfl) (fun _ => Nat.le_of_ble_eq_true rfl)) | apply Trace.pu [_] (.loadCol ty28 (.plain rfl) rfl rfl (fun _ => by decide) (fun _ => by omega)) | apply Trace.pu [_] (.loadArr ty28 (.plain rfl) rfl)
        apply Trace.ct (callArgs0 (.cons (.plain rfl) (.cons (.plain rfl) .nil))) (mcN hz hpz (fun _ => ht) (l := (g.certMakeP p).1) (c := (g.certMakeP p).2) rfl) en14
        apply Trace.pu [] (.move (.plain rfl))
        apply Trace.pu [] (.extract (.plain rfl) rfl)
        apply Trace.pu [] (.extract (.plain rfl) rfl)
        apply Trace.pu [] (.assign (.plain rfl))
        apply Trace.pu [] (.assign (.plain rfl))
        exact .nil _
      · exact keepOK_of hk hn rfl
      apply WPA.seq
      apply WPA.region
      · first | apply Trace.pu [_] (.loadAllD ty25 (.plain rfl) rfl (by simp)) | apply Trace.pu [_] (.loadLocD ty25 (.plain rfl) rfl (fun _ => by simp)) | apply Trace.pu [_] (.loadLoc ty25 (.plain rfl) rfl (fun _ => Nat.le_of_ble_eq_true rfl)) | apply Trace.pu [] (.loadRp ty25 (.plain rfl) (fun _ => by decide)) | apply Trace.pu [] (.loadRp ty25 (.plain rfl) (fun _ => Nat.le_of_ble_eq_true rfl)) | apply Trace.pu [_] (.loadCol ty25 (.plain rfl) rfl rfl (fun _ => by decide) (fun _ => by omega)) | apply Trace.pu [_] (.loadArr ty25 (.plain rfl) rfl)
        first | apply Trace.pu [_] (.loadAllD ty28 (.plain rfl) rfl (by simp)) | apply Trace.pu [_] (.loadLocD ty28 (.plain rfl) rfl (fun _ => by simp)) | apply Trace.pu [_] (.loadLoc ty28 (.plain rfl) rfl (fun _ => Nat.le_of_ble_eq_true rfl)) | apply Trace.pu [] (.loadRp ty28 (.plain rfl) (fun _ => by decide)) | apply Trace.pu [] (.loadRp ty28 (.plain rfl) (fun _ => Nat.le_of_ble_eq_true rfl)) | apply Trace.pu [_] (.loadCol ty28 (.plain rfl) rfl rfl (fun _ => by decide) (fun _ => by omega)) | apply Trace.pu [_] (.loadArr ty28 (.plain rfl) rfl)
        apply Trace.ct (callArgs0 (.cons (.plain rfl) (.cons (.plain rfl) .nil))) (rmN hz hpz (fun _ => ht) (l := (g.refMakeP p).1) (c := (g.refMakeP p).2) rfl) en23
        apply Trace.pu [] (.move (.plain rfl))
        apply Trace.pu [] (.extract (.plain rfl) rfl)
        apply Trace.pu [] (.extract (.plain rfl) rfl)
        apply Trace.pu [] (.assign (.plain rfl))
        apply Trace.pu [] (.assign (.plain rfl))
        exact .nil _
      · exact keepOK_of hk hn rfl
      apply WPA.seq
      apply WPA.seq
      apply WPA.region
      · apply Trace.pu [] (.move (.plain rfl))
        apply Trace.pu [] (.move (.plain rfl))
        apply Trace.pu [] (.cmp (.plain rfl) (.plain rfl) rfl)
        exact .nil _
      · exact keepOK_of hk hn rfl
      refine WPA.cond rfl (fun hc3 => ?_) (fun hc3 => ?_)
      · exfalso
        have h9 : (!decide ((g.certMakeP p).2 = (g.refMakeP p).2)) = true := hc3
        rw [make_same] at h9
        simp at h9
      · apply WPA.skip
        apply WPA.seq
        apply WPA.seq
        apply WPA.region
        · apply Trace.pu [] (.move (.plain rfl))
          apply Trace.pu [] (.cmp (.plain rfl) (.plain rfl) rfl)
          exact .nil _
        · exact keepOK_of hk hn rfl
        refine WPA.cond rfl (fun hc4 => ?_) (fun hc4 => ?_)
        · have hE : (g.certMakeP p).2 ≠ 0 := by simpa using hc4
          have hnil := make_err hE
          apply WPA.seq
          apply WPA.region
          · apply Trace.pu [] (.move (.plain rfl))
            apply Trace.pu [] (.len rfl Try.underlying22 (.plain rfl) rfl)
            apply Trace.pu [] (.cmp (.plain rfl) (.plain rfl) rfl)
            apply Trace.pu [] (.assign (.plain rfl))
            exact .nil _
          · exact keepOK_of hk hn rfl
          apply WPA.ret
          refine ⟨.inr rfl, ⟨_, (.cons (.tmp rfl) .nil), ?_⟩, by simp [St.get]⟩
          exact congrArg bv (by rw [hnil]; rfl)
        · have hE : (g.certMakeP p).2 = 0 := by simpa using hc4
          obtain ⟨hps, hpl⟩ := make_pass ht hE
          apply WPA.skip
          apply WPA.seq
          apply WPA.region
          · first | apply Trace.pu [_] (.loadAllD ty25 (.plain rfl) rfl (by simp)) | apply Trace.pu [_] (.loadLocD ty25 (.plain rfl) rfl (fun _ => by simp)) | apply Trace.pu [_] (.loadLoc ty25 (.plain rfl) rfl (fun _ => Nat.le_of_ble_eq_true rfl)) | apply Trace.pu [] (.loadRp ty25 (.plain rfl) (fun _ => by decide)) | apply Trace.pu [] (.loadRp ty25 (.plain rfl) (fun _ => Nat.le_of_ble_eq_true rfl)) | apply Trace.pu [_] (.loadCol ty25 (.plain rfl) rfl rfl (fun _ => by decide) (fun _ => by omega)) | apply Trace.pu [_] (.loadArr ty25 (.plain rfl) rfl)
            first | apply Trace.pu [_] (.loadAllD ty28 (.plain rfl) rfl (by simp)) | apply Trace.pu [_] (.loadLocD ty28 (.plain rfl) rfl (fun _ => by simp)) | apply Trace.pu [_] (.loadLoc ty28 (.plain rfl) rfl (fun _ => Nat.le_of_ble_eq_true rfl)) | apply Trace.pu [] (.loadRp ty28 (.plain rfl) (fun _ => by decide)) | apply Trace.pu [] (.loadRp ty28 (.plain rfl) (fun _ => Nat.le_of_ble_eq_true rfl)) | apply Trace.pu [_] (.loadCol ty28 (.plain rfl) rfl rfl (fun _ => by decide) (fun _ => by omega)) | apply Trace.pu [_] (.loadArr ty28 (.plain rfl) rfl)
            apply Trace.pu [] (.move (.plain rfl))
            apply Trace.ct (callArgs0 (.cons (.plain rfl) (.cons (.plain rfl) (.cons (.plain rfl) .nil)))) (ckS hz hpz (by omega) hps) en22
            apply Trace.pu [] (.move (.plain rfl))
            apply Trace.pu [] (.extract (.plain rfl) rfl)
            apply Trace.pu [] (.extract (.plain rfl) rfl)
            apply Trace.pu [] (.assign (.plain rfl))
            apply Trace.pu [] (.assign (.plain rfl))
            exact .nil _
          · exact keepOK_of hk hn rfl
          apply WPA.seq
          apply WPA.region
          · apply Trace.pu [] (.move (.plain rfl))
            apply Trace.pu [] (.cmp (.plain rfl) (.plain rfl) rfl)
            apply Trace.pu [] (.move (.plain rfl))
            apply Trace.pg [] rfl (.move (.plain rfl))
            apply Trace.pu [] (.pick (.plain rfl) (.gd rfl (by simp)) (.plain rfl))
            apply Trace.pu [] (.assign (.plain rfl))
            exact .nil _
          · exact keepOK_of hk hn rfl
          apply WPA.ret
          refine ⟨.inr rfl, ⟨_, (.cons (.tmp rfl) .nil), ?_⟩, by simp [St.get]⟩
          rfl

end Go.Proofs.Ytcidkahhfdcddaa

