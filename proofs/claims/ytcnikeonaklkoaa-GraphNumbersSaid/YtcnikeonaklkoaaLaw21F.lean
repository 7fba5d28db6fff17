/- GraphEasier. -/
import Derived.Test.YtcnikeonaklkoaaLaw21D
import Derived.Test.YtcnikeonaklkoaaCutOut
namespace Go.Proofs.Ytcnikeonaklkoaa
open Go
set_option linter.unusedVariables false
set_option linter.unusedSimpArgs false
set_option maxRecDepth 10000
set_option maxHeartbeats 2000000

theorem Ghost.recol {E : Env} {S : St} {l n len : Nat} {cs cs' : List Col} (hb : S.get (bk l) = some (.blk (.app n len cs))) (h0 : cs'.length = cs.length) (h1 : ∀ c ∈ cs', c.len = len) (h2 : ∀ i, i < len → cs'.map (Col.at · i) = cs.map (Col.at · i)) : Ghost E S ((bk l, .blk (.app n len cs')) :: S) := by
  refine (Ghost.reblk (B' := .app n len cs') hb fun V M w h => ?_).trans (Ghost.weaken fun m c e => by rw [upd_one]; rw [get_cons] at e; exact e)
  obtain ⟨g1, g2, g3⟩ := h
  refine ⟨by rw [h0]; exact g1, h1, ?_⟩
  cases hk : V.κ l with
  | none => rw [hk] at g3; exact g3
  | some cap =>
    rw [hk] at g3
    obtain ⟨h4, vs, t, h5, h6, h7, h8, h9⟩ := g3
    refine ⟨h4, vs, t, h5, h6, by rw [h0]; exact h7, h1, fun i j c hi hj => ?_⟩
    have hjl : j < cs'.length := (List.getElem?_eq_some_iff.1 hj).1
    obtain ⟨d, hd⟩ : ∃ d, cs[j]? = some d := ⟨_, List.getElem?_eq_getElem (by omega)⟩
    obtain ⟨v, hv, hdv⟩ := h9 i j d hi hd
    have e := congrArg (fun l => l[j]?) (h2 i hi)
    simp only [List.getElem?_map, hj, hd, Option.map_some] at e
    injection e with e
    exact ⟨v, hv, by rw [e]; exact hdv⟩
abbrev edgCols (l : List Edg) : List Col := [.ints .i64 (l.map (·.f)), .ints .i64 (l.map (·.t)), .ints .i64 (l.map (·.w)), .ints .i64 (l.map (·.d))]
theorem edg_row {l : List Edg} {i : Nat} (hi : i < l.length) : (edgCols l).map (Col.at · i) = (l.getD i default).ds := by
  simp only [edgCols, List.map_cons, List.map_nil, Col.at]
  rw [getD_map' _ _ default _ hi, getD_map' _ _ default _ hi, getD_map' _ _ default _ hi, getD_map' _ _ default _ hi]
theorem cat_edg {l : List Edg} {i : Nat} (hi : i < l.length) : (edgCols l).map (Col.at · i) = (catCols [.ds [], .ds [], .ds [], .ds []] (edgCols l)).map (Col.at · i) := by
  simp only [edgCols, catCols, Col.cat, List.nil_append, List.map_cons, List.map_nil, Col.at]
  rw [getD_map' _ (l.map (·.f)) 0 _ (by simpa using hi), getD_map' _ (l.map (·.t)) 0 _ (by simpa using hi), getD_map' _ (l.map (·.w)) 0 _ (by simpa using hi), getD_map' _ (l.map (·.d)) 0 _ (by simpa using hi)]
theorem oneB_all {us : List AV} (h : us.all AV.oneB = true) : ∀ x ∈ us, x.oneB = true := List.all_eq_true.1 h
theorem cat_int {l : List Int} {i : Nat} (hi : i < l.length) : ([Col.ints .i64 l]).map (Col.at · i) = (catCols [.ds []] [Col.ints .i64 l]).map (Col.at · i) := by
  simp only [catCols, Col.cat, List.nil_append, List.map_cons, List.map_nil, Col.at]
  rw [getD_map' _ l 0 _ hi]
theorem map_eras {β : Type} (f : Edg → β) (l : List Edg) (i : Nat) : (l.map f).eraseIdx i = (l.eraseIdx i).map f := by
  apply List.ext_getElem?
  intro j
  simp only [List.getElem?_eraseIdx, List.getElem?_map]
  split <;> rfl
theorem edg_eras (l : List Edg) (i : Nat) : (edgCols l).map (Col.eras i) = edgCols (l.eraseIdx i) := by
  simp only [edgCols, List.map_cons, List.map_nil, Col.eras, map_eras]
theorem map_set_same {β : Type} (f : Edg → β) {l : List Edg} {i : Nat} {e : Edg} (hi : i < l.length) (h : f e = f (l.getD i default)) : (l.set i e).map f = l.map f := by
  apply List.ext_getElem?
  intro j
  simp only [List.getElem?_map, List.getElem?_set]
  by_cases hij : i = j
  · subst hij
    rw [if_pos rfl, if_pos hi, List.getElem?_eq_getElem hi, Option.map_some, Option.map_some, h, getD_lt _ _ hi]
  · rw [if_neg hij]
/-- Edges none of which is shorter. -/
structure EasyE (g : Gr) (es' : List Edg) : Prop where
  len : es'.length ≤ g.es.length
  ed : ∀ e' ∈ es', (∃ e ∈ g.es, e'.f = e.f ∧ e'.t = e.t ∧ e.d ≤ e'.d) ∧ 0 ≤ e'.w ∧ e'.w ≤ 64 ∧ e'.d ≤ 1048576
structure EasyL (g : Gr) (l : List Int) : Prop where
  len : l.length = g.lat.length
  lat : ∀ x ∈ l, 0 ≤ x ∧ x ≤ 4096
  le : ∀ v, l.getD v 0 ≤ g.lat.getD v 0
theorem easyE_self {g : Gr} (h : g.OK) : EasyE g g.es := ⟨Nat.le_refl _, fun e he => by have := Gr.edge_mem h he; exact ⟨⟨e, he, rfl, rfl, Int.le_refl _⟩, by omega⟩⟩
theorem easyE_eras {g : Gr} (h : g.OK) (i : Nat) : EasyE g (g.es.eraseIdx i) := ⟨by rw [List.length_eraseIdx]; split <;> omega, fun e he => (easyE_self h).ed e (List.mem_of_mem_eraseIdx he)⟩
theorem easyE_set {g : Gr} (h : g.OK) {i : Nat} (hi : i < g.es.length) {e' : Edg} (h1 : e'.f = (g.es.getD i default).f) (h2 : e'.t = (g.es.getD i default).t) (h3 : (g.es.getD i default).d ≤ e'.d) (h4 : 0 ≤ e'.w ∧ e'.w ≤ 64 ∧ e'.d ≤ 1048576) : EasyE g (g.es.set i e') := by
  refine ⟨by simp, fun e he => ?_⟩
  rcases List.mem_or_eq_of_mem_set he with he | rfl
  · exact (easyE_self h).ed e he
  · exact ⟨⟨_, (Gr.edge h hi).1, h1, h2, h3⟩, h4⟩
theorem easyL_self {g : Gr} (h : g.OK) : EasyL g g.lat := ⟨rfl, h.lat, fun v => Int.le_refl _⟩
theorem easyL_set {g : Gr} (h : g.OK) {j : Nat} (hj : j < g.lat.length) {x : Int} (hx : 0 ≤ x ∧ x ≤ g.lat.getD j 0) : EasyL g (g.lat.set j x) := by
  have hb := Gr.lat_at h j
  refine ⟨by simp, fun y hy => ?_, fun v => ?_⟩
  · rcases List.mem_or_eq_of_mem_set hy with hy | rfl
    · exact h.lat y hy
    · omega
  · rw [getD_set hj]
    split
    · rename_i e; subst e; exact hx.2
    · exact Int.le_refl _
theorem easier {g : Gr} (hC : g.check = 0) {l : List Int} {es' : List Edg} (hl : EasyL g l) (he : EasyE g es') : (⟨l, es'⟩ : Gr).Sz ∧ (⟨l, es'⟩ : Gr).check = 0 := by
  obtain ⟨hok, F, hF⟩ := check_pot hC
  have hn := hok.n
  have hm := hok.m
  have hll := hl.len
  have hel := he.len
  have ho : (⟨l, es'⟩ : Gr).OK := by
    refine ⟨by show l.length ≤ _; omega, by show es'.length ≤ _; omega, hl.lat, fun e' he' => ?_⟩
    obtain ⟨⟨e, hem, h1, h2, h3⟩, h4⟩ := he.ed e' he'
    have a := hok.es e hem
    show (0 ≤ e'.f ∧ e'.f < (l.length : Int)) ∧ (0 ≤ e'.t ∧ e'.t < (l.length : Int)) ∧ (0 ≤ e'.w ∧ e'.w ≤ 64) ∧ 0 ≤ e'.d ∧ e'.d ≤ 1048576
    omega
  refine ⟨⟨by show l.length ≤ _; omega, by show es'.length ≤ _; omega, fun x hx => by have := hl.lat x hx; omega, fun e' he' => ?_⟩, ?_⟩
  · have a := ho.es e' he'
    have b : (⟨l, es'⟩ : Gr).lat.length ≤ 4096 := ho.n
    omega
  · have hs : (⟨l, es'⟩ : Gr).short = false := (short_pot ho).2 ⟨F, fun e' he' => by
      obtain ⟨⟨e, hem, h1, h2, h3⟩, h4⟩ := he.ed e' he'
      have a := hF e hem
      have b := hl.le e.f.toNat
      rw [h1, h2]
      have hW : g.W e ≤ (⟨l, es'⟩ : Gr).W e' := by
        show (g.nn + 1) * (e.d - g.lat.getD e.f.toNat 0) - 1 ≤ ((l.length : Int) + 1) * (e'.d - l.getD e'.f.toNat 0) - 1
        rw [h1, hll]
        have : (g.nn + 1) * (e.d - g.lat.getD e.f.toNat 0) ≤ (g.nn + 1) * (e'.d - l.getD e.f.toNat 0) := Int.mul_le_mul_of_nonneg_left (by omega) (by show (0 : Int) ≤ (g.lat.length : Int) + 1; omega)
        show _ ≤ (g.nn + 1) * _ - 1
        omega
      omega⟩
    have hf := Gr.formed_of ho
    unfold Gr.check Gr.looped
    rw [hs, Bool.and_false]
    exact hf
/-- soundpost/soundpostlaw21.GraphEasier -/
theorem spec7 (g : Gr) (hz : g.Sz) (a tu b : Nat) (ha : a ≤ 255) (htu : tu ≤ 255) (hb : b ≤ 255) : FnSpec Try.prog 7 [g.av, iv .u8 a, iv .u8 tu, iv .u8 b] [] (bv true) [] [] := by
  have hn1 := hz.n
  have hn2 := hz.m
  refine fnSpec_of (rs := [.tmp 8]) Try.func7 rfl rfl (Nat.le_of_ble_eq_true rfl) (by simp [St.get]) fun E hk hn => ?_
  apply WPA.seq
  apply WPA.region
  · first | apply Trace.boxD 4 [] (.plain rfl) rfl rfl | apply Trace.box 4 [] (.plain rfl) rfl rfl rfl
    apply Trace.pu [] (.assign (.plain rfl))
    exact .nil _
  · exact keepOK_of hk hn rfl
  apply WPA.seq
  apply WPA.seq
  apply WPA.region
  · apply Trace.cu (callArgs0 .nil) spec10 en10
    apply Trace.pu [] (.not (.plain rfl))
    exact .nil _
  · exact keepOK_of hk hn rfl
  refine WPA.cond rfl (fun hc1 => ?_) (fun hc1 => ?_)
  · cases hc1
  · apply WPA.skip
    apply WPA.seq
    apply WPA.seq
    apply WPA.region
    · apply Trace.pu [] (.fieldAddr fl25_0 (.plain rfl) rfl)
      first | apply Trace.pu [_] (.loadLoc1D ty22 (.plain rfl) rfl rfl) | apply Trace.pu [_] (.loadLoc1 ty22 (.plain rfl) rfl rfl) | apply Trace.pu [] (.loadRp1 ty22 (.plain rfl) rfl) | apply Trace.pu [_] (.loadCol1 ty22 (.plain rfl) rfl rfl rfl (fun _ => by omega))
      apply Trace.pu [] (.len rfl Try.underlying22 (.plain rfl) rfl)
      apply Trace.pu [] (.cmp (.plain rfl) (.plain rfl) rfl)
      apply Trace.pu [] (.move (.plain rfl))
      apply Trace.pg [] rfl (.fieldAddr fl25_1 (.plain rfl) rfl)
      first | apply Trace.pg [_] rfl (.loadLoc1D ty23 (.gd rfl (fun h => h)) rfl rfl) | apply Trace.pg [_] rfl (.loadLoc1 ty23 (.gd rfl (fun h => h)) rfl rfl) | apply Trace.pg [] rfl (.loadRp1 ty23 (.gd rfl (fun h => h)) rfl) | apply Trace.pg [_] rfl (.loadCol1 ty23 (.gd rfl (fun h => h)) rfl rfl rfl (fun _ => by omega))
      apply Trace.pg [] rfl (.len rfl Try.underlying23 (.gd rfl (fun h => h)) rfl)
      apply Trace.pg [] rfl (.cmp (.gd rfl (fun h => h)) (.plain rfl) rfl)
      apply Trace.pu [] (.pick (.plain rfl) (.plain rfl) (.gd rfl (by simp)))
      apply Trace.pu [] (.move (.plain rfl))
      first | apply Trace.pg [_] rfl (.loadAllD ty25 (.plain rfl) rfl (by simp)) | apply Trace.pg [_] rfl (.loadLocD ty25 (.plain rfl) rfl (fun _ => by simp)) | apply Trace.pg [_] rfl (.loadLoc ty25 (.plain rfl) rfl (fun _ => Nat.le_of_ble_eq_true rfl)) | apply Trace.pg [] rfl (.loadRp ty25 (.plain rfl) (fun _ => by decide)) | apply Trace.pg [] rfl (.loadRp ty25 (.plain rfl) (fun _ => Nat.le_of_ble_eq_true rfl)) | apply Trace.pg [_] rfl (.loadCol ty25 (.plain rfl) rfl rfl (fun _ => by decide) (fun _ => by omega)) | apply Trace.pg [_] rfl (.loadArr ty25 (.plain rfl) rfl)
      apply Trace.cg rfl (callArgs0 (.cons (.gd rfl (fun h => h)) .nil)) (fun _ => chN hz (c := g.check) rfl) en12
      apply Trace.pg [] rfl (.cmp (.gd rfl (fun h => h)) (.plain rfl) rfl)
      apply Trace.pu [] (.pick (.plain rfl) (.plain rfl) (.gd rfl (by simp)))
      exact .nil _
    · exact keepOK_of hk hn rfl
    refine WPA.cond rfl (fun hc2 => ?_) (fun hc2 => ?_)
    · apply WPA.seq
      apply WPA.region
      · apply Trace.pu [] (.assign (.plain rfl))
        exact .nil _
      · exact keepOK_of hk hn rfl
      apply WPA.ret
      refine ⟨.inr rfl, ⟨_, (.cons (.tmp rfl) .nil), ?_⟩, by simp [St.get]⟩
      rfl
    · obtain ⟨hn3, hm3, hck⟩ : g.lat.length ≤ 300 ∧ g.es.length ≤ 300 ∧ g.check = 0 := by
        have h9 : (bif (bif decide ((300 : Int) < g.lat.length) then true else decide ((300 : Int) < g.es.length)) then true else !decide (g.check = 0)) = false := hc2
        rw [bif_or, bif_or] at h9
        simp only [Bool.or_eq_false_iff, decide_eq_false_iff_not, Bool.not_eq_false', decide_eq_true_eq] at h9
        exact ⟨by omega, by omega, h9.2⟩
      have hok := (check_pot hck).1
      apply WPA.skip
      apply WPA.seq
      refine WPA.weaken (T := [(sl 1, .av (iv .u8 (a : Nat))), (sl 2, .av (iv .u8 (tu : Nat))), (sl 3, .av (iv .u8 (b : Nat))), (sl 4, .av (.loc 4 0)), (bk 4, .blk (.data g.ds))]) ?_ (St.le_cons rfl (St.le_cons rfl (St.le_cons rfl (St.le_cons rfl (St.le_cons rfl (St.le_nil _))))))
      apply WPA.draw mixed
      · apply Trace.buildSlice 29 [] so22 zo3 rfl (by decide) (by decide) (.nil _ _) rfl rfl rfl
        apply Trace.pu [] (.fieldAddr fl25_0 (.plain rfl) rfl)
        first | apply Trace.pu [_] (.loadLoc1D ty22 (.plain rfl) rfl rfl) | apply Trace.pu [_] (.loadLoc1 ty22 (.plain rfl) rfl rfl) | apply Trace.pu [] (.loadRp1 ty22 (.plain rfl) rfl) | apply Trace.pu [_] (.loadCol1 ty22 (.plain rfl) rfl rfl rfl (fun _ => by omega))
        apply Trace.append 32 [bk 29, sl 29] ap22 kd22 (by decide) (.own (.plain rfl) rfl) (.rows (cs := [.ints .i64 g.lat]) (.plain rfl) rfl (by simp [Col.len]) (fun i hi => rfl)) (Col.ones rfl) (labs_ok rfl) (by omega) (by omega) rfl rfl
        apply Trace.buildSlice 33 [] so23 zo40 rfl (by decide) (by decide) (.nil _ _) rfl rfl rfl
        apply Trace.pu [] (.fieldAddr fl25_1 (.plain rfl) rfl)
        first | apply Trace.pu [_] (.loadLoc1D ty23 (.plain rfl) rfl rfl) | apply Trace.pu [_] (.loadLoc1 ty23 (.plain rfl) rfl rfl) | apply Trace.pu [] (.loadRp1 ty23 (.plain rfl) rfl) | apply Trace.pu [_] (.loadCol1 ty23 (.plain rfl) rfl rfl rfl (fun _ => by omega))
        apply Trace.append 36 [bk 33, sl 33] ap23 kd23 (by decide) (.own (.plain rfl) rfl) (.rows (cs := edgCols g.es) (.plain rfl) rfl (by simp [Col.len]) (fun i hi => (edg_row hi).symm)) (Col.ones rfl) (labs_ok rfl) (by omega) (by omega) rfl rfl
        apply Trace.pu [] (.build zo25 pl25 (.cons (.plain rfl) rfl rfl (Nat.le_of_ble_eq_true rfl) (.cons (.plain rfl) rfl rfl (Nat.le_of_ble_eq_true rfl) (.nil _ _))) rfl)
        apply Trace.alloc 9 [] (.data _) zo25 (cellsAs_data _) rfl
        apply Trace.storeDA ty25 (.plain rfl) (.plain rfl) rfl rfl rfl (oneB_all rfl) (Nat.le_of_ble_eq_true rfl) rfl
        exact .nil _
      · rfl
      · exact keepOK_of hk hn rfl
      apply WPA.seq
      apply WPA.seq
      refine WPA.ghost (Ghost.recol (l := 36) (cs' := edgCols g.es) rfl rfl (by intro c hc; simp [edgCols] at hc; rcases hc with rfl | rfl | rfl | rfl <;> simp [Col.len]) (fun i hi => cat_edg (by omega))) ?_
      refine WPA.ghost (Ghost.recol (l := 32) (cs' := [.ints .i64 g.lat]) rfl rfl (by intro c hc; simp at hc; subst hc; simp [Col.len]) (fun i hi => cat_int (by omega))) ?_
      refine WPA.weaken (T := [(sl 1, .av (iv .u8 (a : Nat))), (sl 2, .av (iv .u8 (tu : Nat))), (sl 3, .av (iv .u8 (b : Nat))), (sl 9, .av (.loc 9 0)), (bk 9, .blk (.cells [.own 32 g.lat.length, .own 36 g.es.length])), (bk 32, .blk (.app 1 g.lat.length [.ints .i64 g.lat])), (bk 36, .blk (.app 4 g.es.length (edgCols g.es)))]) ?_ (St.le_cons rfl (St.le_cons rfl (St.le_cons rfl (St.le_cons rfl (St.le_cons (by rw [show 0 + g.lat.length = g.lat.length by omega, show 0 + g.es.length = g.es.length by omega]; rfl) (St.le_cons (by rw [show 0 + g.lat.length = g.lat.length by omega]; rfl) (St.le_cons (by rw [show 0 + g.es.length = g.es.length by omega]; rfl) (St.le_nil _))))))))
      apply WPA.region
      · apply Trace.pu [] (.fieldAddr fl25_1 (.plain rfl) rfl)
        first | apply Trace.pu [_] (.loadLoc1D ty23 (.plain rfl) rfl rfl) | apply Trace.pu [_] (.loadLoc1 ty23 (.plain rfl) rfl rfl) | apply Trace.pu [] (.loadRp1 ty23 (.plain rfl) rfl) | apply Trace.pu [_] (.loadCol1 ty23 (.plain rfl) rfl rfl rfl (fun _ => by omega))
        apply Trace.pu [] (.len rfl Try.underlying23 (.plain rfl) rfl)
        apply Trace.pu [] (.cmp (.plain rfl) (.plain rfl) rfl)
        exact .nil _
      · exact keepOK_of hk hn rfl
      refine WPA.cond rfl (fun hc3 => ?_) (fun hc3 => ?_)
      · have hmp : 0 < g.es.length := by
          have h9 : (0 : Int) < g.es.length := by simpa using hc3
          omega
        obtain ⟨ie, hie⟩ : ∃ ie, a % g.es.length = ie := ⟨_, rfl⟩
        have hiem : ie < g.es.length := by rw [← hie]; exact Nat.mod_lt _ hmp
        obtain ⟨e, he⟩ : ∃ e, g.es.getD ie default = e := ⟨_, rfl⟩
        have hem := Gr.edge_mem hok (e := e) (by rw [← he]; exact (Gr.edge hok hiem).1)
        apply WPA.seq
        apply WPA.region
        · apply Trace.pu [] (.move (.plain rfl))
          apply Trace.pu [] ((Pure.conv Try.underlying5 Try.underlying3 (.plain rfl)).to (y := iv .i64 (a : Nat)) (by rw [wrapI (by omega)]))
          apply Trace.pu [] (.fieldAddr fl25_1 (.plain rfl) rfl)
          first | apply Trace.pu [_] (.loadLoc1D ty23 (.plain rfl) rfl rfl) | apply Trace.pu [_] (.loadLoc1 ty23 (.plain rfl) rfl rfl) | apply Trace.pu [] (.loadRp1 ty23 (.plain rfl) rfl) | apply Trace.pu [_] (.loadCol1 ty23 (.plain rfl) rfl rfl rfl (fun _ => by omega))
          apply Trace.pu [] (.len rfl Try.underlying23 (.plain rfl) rfl)
          apply Trace.pu [] ((Pure.rem (.plain rfl) (.plain rfl) (fun _ => by omega)).to (y := iv .i64 (ie : Nat)) (by rw [← Int.ofNat_tmod, hie]))
          apply Trace.pu [] (.assign (.plain rfl))
          exact .nil _
        · exact keepOK_of hk hn rfl
        apply WPA.seq
        apply WPA.region
        · apply Trace.pu [] (.move (.plain rfl))
          apply Trace.pu [] (.rem (.plain rfl) (.plain rfl) (fun _ => by decide))
          exact .nil _
        · exact keepOK_of hk hn rfl
        apply WPA.block
        apply WPA.seq
        apply WPA.region
        · apply Trace.pu [] (.cmp (.plain rfl) (.plain rfl) rfl)
          apply Trace.pu [] (.assign (.plain rfl))
          exact .nil _
        · exact keepOK_of hk hn rfl
        refine WPA.cond rfl (fun hc4 => ?_) (fun hc4 => ?_)
        · obtain ⟨es', hes, hEs⟩ : ∃ es', g.es.eraseIdx ie = es' ∧ EasyE g es' := ⟨_, rfl, easyE_eras hok ie⟩
          have hel : es'.length = g.es.length - 1 := by rw [← hes, List.length_eraseIdx, if_pos hiem]
          have hcol : (edgCols g.es).map (Col.eras ie) = edgCols es' := by rw [← hes, edg_eras]
          apply WPA.draw mixed
          · apply Trace.pu [] (.fieldAddr fl25_1 (.plain rfl) rfl)
            first | apply Trace.pu [_] (.loadLoc1D ty23 (.plain rfl) rfl rfl) | apply Trace.pu [_] (.loadLoc1 ty23 (.plain rfl) rfl rfl) | apply Trace.pu [] (.loadRp1 ty23 (.plain rfl) rfl) | apply Trace.pu [_] (.loadCol1 ty23 (.plain rfl) rfl rfl rfl (fun _ => by omega))
            apply Trace.pu [] (.move (.plain rfl))
            apply Trace.pu [] (.cutPre so23 (.plain rfl) (.to _ (.plain rfl) (fun _ => by omega)) (fun _ => by omega))
            apply Trace.pu [] (.fieldAddr fl25_1 (.plain rfl) rfl)
            first | apply Trace.pu [_] (.loadLoc1D ty23 (.plain rfl) rfl rfl) | apply Trace.pu [_] (.loadLoc1 ty23 (.plain rfl) rfl rfl) | apply Trace.pu [] (.loadRp1 ty23 (.plain rfl) rfl) | apply Trace.pu [_] (.loadCol1 ty23 (.plain rfl) rfl rfl rfl (fun _ => by omega))
            apply Trace.pu [] (.move (.plain rfl))
            apply Trace.pu [] (.arith (.plain rfl) (.plain rfl) rfl (fun _ => bd64 (by omega)))
            apply Trace.pu [] (.cutOwn so23 (.plain rfl) (.to _ (.plain rfl) (fun _ => by omega)) (.no _) (fun _ => ⟨by omega, by omega⟩))
            apply Trace.cutOut (i := ie) (len := g.es.length) ap23 kd23 (by decide) (.plain rfl) (.plain rfl) rfl hiem (Col.ones rfl)
            apply Trace.pu [] (.fieldAddr fl25_1 (.plain rfl) rfl)
            first | apply Trace.storeD ty23 (.plain rfl) (.plain rfl) rfl rfl rfl (by simp [AV.oneB, single]) (Nat.le_of_ble_eq_true rfl) rfl | apply Trace.storeDA ty23 (.plain rfl) (.plain rfl) rfl rfl rfl (by simp [AV.oneB, single]) (Nat.le_of_ble_eq_true rfl) rfl | apply Trace.storeLoc ty23 (.plain rfl) (.plain rfl) rfl rfl rfl (by simp [AV.oneB, single]) (Nat.le_of_ble_eq_true rfl) rfl | apply Trace.storeRow ty23 (.plain rfl) (.plain rfl) rfl rfl rfl rfl (by decide) (by simp [AV.oneB, single]) rfl (by omega)
            exact .nil _
          · rfl
          · exact keepOK_of hk hn rfl
          apply WPA.seq
          apply WPA.seq
          refine WPA.weaken (T := [(sl 1, .av (iv .u8 (a : Nat))), (sl 3, .av (iv .u8 (b : Nat))), (sl 9, .av (.loc 9 0)), (bk 9, .blk (.cells [.own 32 g.lat.length, .own 36 es'.length])), (bk 32, .blk (.app 1 g.lat.length [.ints .i64 g.lat])), (bk 36, .blk (.app 4 es'.length (edgCols es')))]) ?_ (St.le_cons rfl (St.le_cons rfl (St.le_cons rfl (St.le_cons (by rw [hel]; rfl) (St.le_cons rfl (St.le_cons (by rw [hel, ← hcol]; rfl) (St.le_nil _)))))))
          apply WPA.region
          · apply Trace.pu [] (.fieldAddr fl25_0 (.plain rfl) rfl)
            first | apply Trace.pu [_] (.loadLoc1D ty22 (.plain rfl) rfl rfl) | apply Trace.pu [_] (.loadLoc1 ty22 (.plain rfl) rfl rfl) | apply Trace.pu [] (.loadRp1 ty22 (.plain rfl) rfl) | apply Trace.pu [_] (.loadCol1 ty22 (.plain rfl) rfl rfl rfl (fun _ => by omega))
            apply Trace.pu [] (.len rfl Try.underlying22 (.plain rfl) rfl)
            apply Trace.pu [] (.cmp (.plain rfl) (.plain rfl) rfl)
            exact .nil _
          · exact keepOK_of hk hn rfl
          refine WPA.cond rfl (fun hc5 => ?_) (fun hc5 => ?_)
          · have hnp : 0 < g.lat.length := by
              have h9 : (0 : Int) < g.lat.length := by simpa using hc5
              omega
            obtain ⟨j, hj⟩ : ∃ j, a % g.lat.length = j := ⟨_, rfl⟩
            have hjn : j < g.lat.length := by rw [← hj]; exact Nat.mod_lt _ hnp
            obtain ⟨b8, hb8⟩ : ∃ b8, b % 8 = b8 := ⟨_, rfl⟩
            have hlj := Gr.lat_at hok j
            have hlj2 : 0 ≤ g.lat.getD ((j : Nat) : Int).toNat 0 ∧ g.lat.getD ((j : Nat) : Int).toNat 0 ≤ 4096 := hlj
            have hll : g.lat.length = g.lat.length := rfl
            obtain ⟨l', hl', hEl⟩ : ∃ l', g.lat.set j (max 0 (g.lat.getD j 0 - (b8 : Int))) = l' ∧ EasyL g l' := ⟨_, rfl, easyL_set hok hjn (by omega)⟩
            apply WPA.seq
            apply WPA.region
            · apply Trace.pu [] (.move (.plain rfl))
              apply Trace.pu [] ((Pure.conv Try.underlying5 Try.underlying3 (.plain rfl)).to (y := iv .i64 (a : Nat)) (by rw [wrapI (by omega)]))
              apply Trace.pu [] (.fieldAddr fl25_0 (.plain rfl) rfl)
              first | apply Trace.pu [_] (.loadLoc1D ty22 (.plain rfl) rfl rfl) | apply Trace.pu [_] (.loadLoc1 ty22 (.plain rfl) rfl rfl) | apply Trace.pu [] (.loadRp1 ty22 (.plain rfl) rfl) | apply Trace.pu [_] (.loadCol1 ty22 (.plain rfl) rfl rfl rfl (fun _ => by omega))
              apply Trace.pu [] (.len rfl Try.underlying22 (.plain rfl) rfl)
              apply Trace.pu [] ((Pure.rem (.plain rfl) (.plain rfl) (fun _ => by omega)).to (y := iv .i64 (j : Nat)) (by rw [← Int.ofNat_tmod, hj]))
              apply Trace.pu [] (.assign (.plain rfl))
              exact .nil _
            · exact keepOK_of hk hn rfl
            apply WPA.draw mixed
            · apply Trace.pu [] (.fieldAddr fl25_0 (.plain rfl) rfl)
              first | apply Trace.pu [_] (.loadLoc1D ty22 (.plain rfl) rfl rfl) | apply Trace.pu [_] (.loadLoc1 ty22 (.plain rfl) rfl rfl) | apply Trace.pu [] (.loadRp1 ty22 (.plain rfl) rfl) | apply Trace.pu [_] (.loadCol1 ty22 (.plain rfl) rfl rfl rfl (fun _ => by omega))
              apply Trace.pu [] (.move (.plain rfl))
              apply Trace.pu [] (.fieldAddr fl25_0 (.plain rfl) rfl)
              first | apply Trace.pu [_] (.loadLoc1D ty22 (.plain rfl) rfl rfl) | apply Trace.pu [_] (.loadLoc1 ty22 (.plain rfl) rfl rfl) | apply Trace.pu [] (.loadRp1 ty22 (.plain rfl) rfl) | apply Trace.pu [_] (.loadCol1 ty22 (.plain rfl) rfl rfl rfl (fun _ => by omega))
              apply Trace.pu [] (.move (.plain rfl))
              first | apply Trace.pu [] (.indexRows el22 (.plain rfl) (.plain rfl) (fun _ => ⟨by omega, by omega⟩)) | apply Trace.pu [] (.indexOwn el22 (.plain rfl) (.plain rfl) (fun _ => ⟨by omega, by omega⟩)) | apply Trace.pu [] (.indexSl el22 (.plain rfl) (.plain rfl) (fun _ => ⟨by omega, by omega⟩))
              first | apply Trace.pu [_] (.loadLoc1D ty3 (.plain rfl) rfl rfl) | apply Trace.pu [_] (.loadLoc1 ty3 (.plain rfl) rfl rfl) | apply Trace.pu [] (.loadRp1 ty3 (.plain rfl) rfl) | apply Trace.pu [_] (.loadCol1 ty3 (.plain rfl) rfl rfl rfl (fun _ => by omega))
              apply Trace.pu [] (.move (.plain rfl))
              apply Trace.pu [] ((Pure.conv Try.underlying5 Try.underlying3 (.plain rfl)).to (y := iv .i64 (b : Nat)) (by rw [wrapI (by omega)]))
              apply Trace.pu [] ((Pure.rem (.plain rfl) (.plain rfl) (fun _ => by decide)).to (y := iv .i64 (b8 : Nat)) (by show iv .i64 (((b : Nat) : Int).tmod ((8 : Nat) : Int)) = _; rw [← Int.ofNat_tmod, hb8]))
              apply Trace.pu [] (.arith (.plain rfl) (.plain rfl) rfl (fun _ => bd64 (by omega)))
              apply Trace.pu [] (.max2 (.plain rfl) (.plain rfl))
              first | apply Trace.pu [] (.indexRows el22 (.plain rfl) (.plain rfl) (fun _ => ⟨by omega, by omega⟩)) | apply Trace.pu [] (.indexOwn el22 (.plain rfl) (.plain rfl) (fun _ => ⟨by omega, by omega⟩)) | apply Trace.pu [] (.indexSl el22 (.plain rfl) (.plain rfl) (fun _ => ⟨by omega, by omega⟩))
              first | apply Trace.storeD ty3 (.plain rfl) (.plain rfl) rfl rfl rfl (by simp [AV.oneB, single]) (Nat.le_of_ble_eq_true rfl) rfl | apply Trace.storeDA ty3 (.plain rfl) (.plain rfl) rfl rfl rfl (by simp [AV.oneB, single]) (Nat.le_of_ble_eq_true rfl) rfl | apply Trace.storeLoc ty3 (.plain rfl) (.plain rfl) rfl rfl rfl (by simp [AV.oneB, single]) (Nat.le_of_ble_eq_true rfl) rfl | apply Trace.storeRow ty3 (.plain rfl) (.plain rfl) rfl rfl rfl rfl (by decide) (by simp [AV.oneB, single]) rfl (by omega)
              exact .nil _
            · rfl
            · exact keepOK_of hk hn rfl
            apply WPA.seq
            have hEll := hEl.len
            obtain ⟨hsz, hckx⟩ := easier hck hEl hEs
            refine WPA.weaken (T := [(sl 9, .av (.loc 9 0)), (bk 9, .blk (.cells [.own 32 g.lat.length, .own 36 es'.length])), (bk 32, .blk (.app 1 g.lat.length [.ints .i64 l'])), (bk 36, .blk (.app 4 es'.length (edgCols es')))]) ?_ (St.le_cons rfl (St.le_cons rfl (St.le_cons (by rw [← hl']; rfl) (St.le_cons rfl (St.le_nil _)))))
            refine WPA.ghost (Ghost.cellFreeze (lb := 9) (j := 0) (l := 32) (g := fun k => [Col.at (.ints .i64 l') k]) rfl rfl rfl rfl (fun k hk => rfl) rfl) ?_
            refine WPA.ghost (Ghost.cellFreeze (lb := 9) (j := 1) (l := 36) (g := fun k => (es'.getD k default).ds) rfl rfl rfl rfl (fun k hk => edg_row hk) rfl) ?_
            refine WPA.ghost (Ghost.reblk (l := 9) (B' := .data (⟨l', es'⟩ : Gr).ds) rfl (fun V M w h => by
              have e : (⟨l', es'⟩ : Gr).ds = [.rows 1 g.lat.length (fun k => [Col.at (.ints .i64 l') k]), .rows 4 es'.length (fun k => (es'.getD k default).ds)] := by show [intsD l', edgesD es'] = _; unfold intsD rowsD; rw [hEll]; rfl
              rw [e]; exact h)) ?_
            apply WPA.region
            · first | apply Trace.pu [_] (.loadAllD ty25 (.plain rfl) rfl (by simp)) | apply Trace.pu [_] (.loadLocD ty25 (.plain rfl) rfl (fun _ => by simp)) | apply Trace.pu [_] (.loadLoc ty25 (.plain rfl) rfl (fun _ => Nat.le_of_ble_eq_true rfl)) | apply Trace.pu [] (.loadRp ty25 (.plain rfl) (fun _ => by decide)) | apply Trace.pu [] (.loadRp ty25 (.plain rfl) (fun _ => Nat.le_of_ble_eq_true rfl)) | apply Trace.pu [_] (.loadCol ty25 (.plain rfl) rfl rfl (fun _ => by decide) (fun _ => by omega)) | apply Trace.pu [_] (.loadArr ty25 (.plain rfl) rfl)
              apply Trace.cu (callArgs0 (.cons (.plain rfl) .nil)) (chN hsz hckx) en12
              apply Trace.pu [] (.cmp (.plain rfl) (.plain rfl) rfl)
              apply Trace.pu [] (.assign (.plain rfl))
              exact .nil _
            · exact keepOK_of hk hn rfl
            apply WPA.ret
            refine ⟨.inr rfl, ⟨_, (.cons (.tmp rfl) .nil), ?_⟩, by simp [St.get]⟩
            rfl
          · obtain ⟨l', hl', hEl⟩ : ∃ l', g.lat = l' ∧ EasyL g l' := ⟨_, rfl, easyL_self hok⟩
            apply WPA.skip
            apply WPA.seq
            have hEll := hEl.len
            obtain ⟨hsz, hckx⟩ := easier hck hEl hEs
            refine WPA.weaken (T := [(sl 9, .av (.loc 9 0)), (bk 9, .blk (.cells [.own 32 g.lat.length, .own 36 es'.length])), (bk 32, .blk (.app 1 g.lat.length [.ints .i64 l'])), (bk 36, .blk (.app 4 es'.length (edgCols es')))]) ?_ (St.le_cons rfl (St.le_cons rfl (St.le_cons (by rw [← hl']; rfl) (St.le_cons rfl (St.le_nil _)))))
            refine WPA.ghost (Ghost.cellFreeze (lb := 9) (j := 0) (l := 32) (g := fun k => [Col.at (.ints .i64 l') k]) rfl rfl rfl rfl (fun k hk => rfl) rfl) ?_
            refine WPA.ghost (Ghost.cellFreeze (lb := 9) (j := 1) (l := 36) (g := fun k => (es'.getD k default).ds) rfl rfl rfl rfl (fun k hk => edg_row hk) rfl) ?_
            refine WPA.ghost (Ghost.reblk (l := 9) (B' := .data (⟨l', es'⟩ : Gr).ds) rfl (fun V M w h => by
              have e : (⟨l', es'⟩ : Gr).ds = [.rows 1 g.lat.length (fun k => [Col.at (.ints .i64 l') k]), .rows 4 es'.length (fun k => (es'.getD k default).ds)] := by show [intsD l', edgesD es'] = _; unfold intsD rowsD; rw [hEll]; rfl
              rw [e]; exact h)) ?_
            apply WPA.region
            · first | apply Trace.pu [_] (.loadAllD ty25 (.plain rfl) rfl (by simp)) | apply Trace.pu [_] (.loadLocD ty25 (.plain rfl) rfl (fun _ => by simp)) | apply Trace.pu [_] (.loadLoc ty25 (.plain rfl) rfl (fun _ => Nat.le_of_ble_eq_true rfl)) | apply Trace.pu [] (.loadRp ty25 (.plain rfl) (fun _ => by decide)) | apply Trace.pu [] (.loadRp ty25 (.plain rfl) (fun _ => Nat.le_of_ble_eq_true rfl)) | apply Trace.pu [_] (.loadCol ty25 (.plain rfl) rfl rfl (fun _ => by decide) (fun _ => by omega)) | apply Trace.pu [_] (.loadArr ty25 (.plain rfl) rfl)
              apply Trace.cu (callArgs0 (.cons (.plain rfl) .nil)) (chN hsz hckx) en12
              apply Trace.pu [] (.cmp (.plain rfl) (.plain rfl) rfl)
              apply Trace.pu [] (.assign (.plain rfl))
              exact .nil _
            · exact keepOK_of hk hn rfl
            apply WPA.ret
            refine ⟨.inr rfl, ⟨_, (.cons (.tmp rfl) .nil), ?_⟩, by simp [St.get]⟩
            rfl
        · apply WPA.seq
          apply WPA.region
          · apply Trace.pu [] (.cmp (.plain rfl) (.plain rfl) rfl)
            apply Trace.pu [] (.assign (.plain rfl))
            exact .nil _
          · exact keepOK_of hk hn rfl
          refine WPA.cond rfl (fun hc6 => ?_) (fun hc6 => ?_)
          · have hdd : (g.es.map (·.d)).getD ((ie : Nat) : Int).toNat 0 = e.d := by
              show (g.es.map (·.d)).getD ie 0 = _
              rw [getD_map' _ _ default _ hiem, he]
            have hdl : (g.es.map (·.d)).length = g.es.length := by simp
            obtain ⟨es', hes, hEs⟩ : ∃ es', g.es.set ie ⟨e.f, e.t, e.w, min 1048576 (e.d + (b : Int))⟩ = es' ∧ EasyE g es' := ⟨_, rfl, easyE_set hok hiem (by rw [he]) (by rw [he]) (by rw [he]; show e.d ≤ min 1048576 (e.d + (b : Int)); omega) (by show 0 ≤ e.w ∧ e.w ≤ 64 ∧ min 1048576 (e.d + (b : Int)) ≤ 1048576; omega)⟩
            have hel : es'.length = g.es.length := by rw [← hes]; simp
            have hcol : [Col.ints .i64 (g.es.map (·.f)), .ints .i64 (g.es.map (·.t)), .ints .i64 (g.es.map (·.w)), .ints .i64 ((g.es.map (·.d)).set ie (min 1048576 ((g.es.map (·.d)).getD ((ie : Nat) : Int).toNat 0 + (b : Int))))] = edgCols es' := by
              rw [hdd, ← hes]
              unfold edgCols
              rw [map_set_same (·.f) hiem (by rw [he]), map_set_same (·.t) hiem (by rw [he]), map_set_same (·.w) hiem (by rw [he]), List.map_set]
            apply WPA.draw mixed
            · apply Trace.pu [] (.fieldAddr fl25_1 (.plain rfl) rfl)
              first | apply Trace.pu [_] (.loadLoc1D ty23 (.plain rfl) rfl rfl) | apply Trace.pu [_] (.loadLoc1 ty23 (.plain rfl) rfl rfl) | apply Trace.pu [] (.loadRp1 ty23 (.plain rfl) rfl) | apply Trace.pu [_] (.loadCol1 ty23 (.plain rfl) rfl rfl rfl (fun _ => by omega))
              apply Trace.pu [] (.move (.plain rfl))
              apply Trace.pu [] (.fieldAddr fl25_1 (.plain rfl) rfl)
              first | apply Trace.pu [_] (.loadLoc1D ty23 (.plain rfl) rfl rfl) | apply Trace.pu [_] (.loadLoc1 ty23 (.plain rfl) rfl rfl) | apply Trace.pu [] (.loadRp1 ty23 (.plain rfl) rfl) | apply Trace.pu [_] (.loadCol1 ty23 (.plain rfl) rfl rfl rfl (fun _ => by omega))
              apply Trace.pu [] (.move (.plain rfl))
              first | apply Trace.pu [] (.indexRows el23 (.plain rfl) (.plain rfl) (fun _ => ⟨by omega, by omega⟩)) | apply Trace.pu [] (.indexOwn el23 (.plain rfl) (.plain rfl) (fun _ => ⟨by omega, by omega⟩)) | apply Trace.pu [] (.indexSl el23 (.plain rfl) (.plain rfl) (fun _ => ⟨by omega, by omega⟩))
              apply Trace.pu [] (.fieldAddr fl40_3 (.plain rfl) rfl)
              first | apply Trace.pu [_] (.loadLoc1D ty3 (.plain rfl) rfl rfl) | apply Trace.pu [_] (.loadLoc1 ty3 (.plain rfl) rfl rfl) | apply Trace.pu [] (.loadRp1 ty3 (.plain rfl) rfl) | apply Trace.pu [_] (.loadCol1 ty3 (.plain rfl) rfl rfl rfl (fun _ => by omega))
              apply Trace.pu [] (.move (.plain rfl))
              apply Trace.pu [] ((Pure.conv Try.underlying5 Try.underlying3 (.plain rfl)).to (y := iv .i64 (b : Nat)) (by rw [wrapI (by omega)]))
              apply Trace.pu [] (.arith (.plain rfl) (.plain rfl) rfl (fun _ => bd64 (by omega)))
              apply Trace.pu [] (.min2 (.plain rfl) (.plain rfl))
              first | apply Trace.pu [] (.indexRows el23 (.plain rfl) (.plain rfl) (fun _ => ⟨by omega, by omega⟩)) | apply Trace.pu [] (.indexOwn el23 (.plain rfl) (.plain rfl) (fun _ => ⟨by omega, by omega⟩)) | apply Trace.pu [] (.indexSl el23 (.plain rfl) (.plain rfl) (fun _ => ⟨by omega, by omega⟩))
              apply Trace.pu [] (.fieldAddr fl40_3 (.plain rfl) rfl)
              first | apply Trace.storeD ty3 (.plain rfl) (.plain rfl) rfl rfl rfl (by simp [AV.oneB, single]) (Nat.le_of_ble_eq_true rfl) rfl | apply Trace.storeDA ty3 (.plain rfl) (.plain rfl) rfl rfl rfl (by simp [AV.oneB, single]) (Nat.le_of_ble_eq_true rfl) rfl | apply Trace.storeLoc ty3 (.plain rfl) (.plain rfl) rfl rfl rfl (by simp [AV.oneB, single]) (Nat.le_of_ble_eq_true rfl) rfl | apply Trace.storeRow ty3 (.plain rfl) (.plain rfl) rfl rfl rfl rfl (by decide) (by simp [AV.oneB, single]) rfl (by omega)
              exact .nil _
            · rfl
            · exact keepOK_of hk hn rfl
            apply WPA.seq
            apply WPA.seq
            refine WPA.weaken (T := [(sl 1, .av (iv .u8 (a : Nat))), (sl 3, .av (iv .u8 (b : Nat))), (sl 9, .av (.loc 9 0)), (bk 9, .blk (.cells [.own 32 g.lat.length, .own 36 es'.length])), (bk 32, .blk (.app 1 g.lat.length [.ints .i64 g.lat])), (bk 36, .blk (.app 4 es'.length (edgCols es')))]) ?_ (St.le_cons rfl (St.le_cons rfl (St.le_cons rfl (St.le_cons (by rw [hel]; rfl) (St.le_cons rfl (St.le_cons (by rw [hel, ← hcol]; rfl) (St.le_nil _)))))))
            apply WPA.region
            · apply Trace.pu [] (.fieldAddr fl25_0 (.plain rfl) rfl)
              first | apply Trace.pu [_] (.loadLoc1D ty22 (.plain rfl) rfl rfl) | apply Trace.pu [_] (.loadLoc1 ty22 (.plain rfl) rfl rfl) | apply Trace.pu [] (.loadRp1 ty22 (.plain rfl) rfl) | apply Trace.pu [_] (.loadCol1 ty22 (.plain rfl) rfl rfl rfl (fun _ => by omega))
              apply Trace.pu [] (.len rfl Try.underlying22 (.plain rfl) rfl)
              apply Trace.pu [] (.cmp (.plain rfl) (.plain rfl) rfl)
              exact .nil _
            · exact keepOK_of hk hn rfl
            refine WPA.cond rfl (fun hc7 => ?_) (fun hc7 => ?_)
            · have hnp : 0 < g.lat.length := by
                have h9 : (0 : Int) < g.lat.length := by simpa using hc7
                omega
              obtain ⟨j, hj⟩ : ∃ j, a % g.lat.length = j := ⟨_, rfl⟩
              have hjn : j < g.lat.length := by rw [← hj]; exact Nat.mod_lt _ hnp
              obtain ⟨b8, hb8⟩ : ∃ b8, b % 8 = b8 := ⟨_, rfl⟩
              have hlj := Gr.lat_at hok j
              have hlj2 : 0 ≤ g.lat.getD ((j : Nat) : Int).toNat 0 ∧ g.lat.getD ((j : Nat) : Int).toNat 0 ≤ 4096 := hlj
              have hll : g.lat.length = g.lat.length := rfl
              obtain ⟨l', hl', hEl⟩ : ∃ l', g.lat.set j (max 0 (g.lat.getD j 0 - (b8 : Int))) = l' ∧ EasyL g l' := ⟨_, rfl, easyL_set hok hjn (by omega)⟩
              apply WPA.seq
              apply WPA.region
              · apply Trace.pu [] (.move (.plain rfl))
                apply Trace.pu [] ((Pure.conv Try.underlying5 Try.underlying3 (.plain rfl)).to (y := iv .i64 (a : Nat)) (by rw [wrapI (by omega)]))
                apply Trace.pu [] (.fieldAddr fl25_0 (.plain rfl) rfl)
                first | apply Trace.pu [_] (.loadLoc1D ty22 (.plain rfl) rfl rfl) | apply Trace.pu [_] (.loadLoc1 ty22 (.plain rfl) rfl rfl) | apply Trace.pu [] (.loadRp1 ty22 (.plain rfl) rfl) | apply Trace.pu [_] (.loadCol1 ty22 (.plain rfl) rfl rfl rfl (fun _ => by omega))
                apply Trace.pu [] (.len rfl Try.underlying22 (.plain rfl) rfl)
                apply Trace.pu [] ((Pure.rem (.plain rfl) (.plain rfl) (fun _ => by omega)).to (y := iv .i64 (j : Nat)) (by rw [← Int.ofNat_tmod, hj]))
                apply Trace.pu [] (.assign (.plain rfl))
                exact .nil _
              · exact keepOK_of hk hn rfl
              apply WPA.draw mixed
              · apply Trace.pu [] (.fieldAddr fl25_0 (.plain rfl) rfl)
                first | apply Trace.pu [_] (.loadLoc1D ty22 (.plain rfl) rfl rfl) | apply Trace.pu [_] (.loadLoc1 ty22 (.plain rfl) rfl rfl) | apply Trace.pu [] (.loadRp1 ty22 (.plain rfl) rfl) | apply Trace.pu [_] (.loadCol1 ty22 (.plain rfl) rfl rfl rfl (fun _ => by omega))
                apply Trace.pu [] (.move (.plain rfl))
                apply Trace.pu [] (.fieldAddr fl25_0 (.plain rfl) rfl)
                first | apply Trace.pu [_] (.loadLoc1D ty22 (.plain rfl) rfl rfl) | apply Trace.pu [_] (.loadLoc1 ty22 (.plain rfl) rfl rfl) | apply Trace.pu [] (.loadRp1 ty22 (.plain rfl) rfl) | apply Trace.pu [_] (.loadCol1 ty22 (.plain rfl) rfl rfl rfl (fun _ => by omega))
                apply Trace.pu [] (.move (.plain rfl))
                first | apply Trace.pu [] (.indexRows el22 (.plain rfl) (.plain rfl) (fun _ => ⟨by omega, by omega⟩)) | apply Trace.pu [] (.indexOwn el22 (.plain rfl) (.plain rfl) (fun _ => ⟨by omega, by omega⟩)) | apply Trace.pu [] (.indexSl el22 (.plain rfl) (.plain rfl) (fun _ => ⟨by omega, by omega⟩))
                first | apply Trace.pu [_] (.loadLoc1D ty3 (.plain rfl) rfl rfl) | apply Trace.pu [_] (.loadLoc1 ty3 (.plain rfl) rfl rfl) | apply Trace.pu [] (.loadRp1 ty3 (.plain rfl) rfl) | apply Trace.pu [_] (.loadCol1 ty3 (.plain rfl) rfl rfl rfl (fun _ => by omega))
                apply Trace.pu [] (.move (.plain rfl))
                apply Trace.pu [] ((Pure.conv Try.underlying5 Try.underlying3 (.plain rfl)).to (y := iv .i64 (b : Nat)) (by rw [wrapI (by omega)]))
                apply Trace.pu [] ((Pure.rem (.plain rfl) (.plain rfl) (fun _ => by decide)).to (y := iv .i64 (b8 : Nat)) (by show iv .i64 (((b : Nat) : Int).tmod ((8 : Nat) : Int)) = _; rw [← Int.ofNat_tmod, hb8]))
                apply Trace.pu [] (.arith (.plain rfl) (.plain rfl) rfl (fun _ => bd64 (by omega)))
                apply Trace.pu [] (.max2 (.plain rfl) (.plain rfl))
                first | apply Trace.pu [] (.indexRows el22 (.plain rfl) (.plain rfl) (fun _ => ⟨by omega, by omega⟩)) | apply Trace.pu [] (.indexOwn el22 (.plain rfl) (.plain rfl) (fun _ => ⟨by omega, by omega⟩)) | apply Trace.pu [] (.indexSl el22 (.plain rfl) (.plain rfl) (fun _ => ⟨by omega, by omega⟩))
                first | apply Trace.storeD ty3 (.plain rfl) (.plain rfl) rfl rfl rfl (by simp [AV.oneB, single]) (Nat.le_of_ble_eq_true rfl) rfl | apply Trace.storeDA ty3 (.plain rfl) (.plain rfl) rfl rfl rfl (by simp [AV.oneB, single]) (Nat.le_of_ble_eq_true rfl) rfl | apply Trace.storeLoc ty3 (.plain rfl) (.plain rfl) rfl rfl rfl (by simp [AV.oneB, single]) (Nat.le_of_ble_eq_true rfl) rfl | apply Trace.storeRow ty3 (.plain rfl) (.plain rfl) rfl rfl rfl rfl (by decide) (by simp [AV.oneB, single]) rfl (by omega)
                exact .nil _
              · rfl
              · exact keepOK_of hk hn rfl
              apply WPA.seq
              have hEll := hEl.len
              obtain ⟨hsz, hckx⟩ := easier hck hEl hEs
              refine WPA.weaken (T := [(sl 9, .av (.loc 9 0)), (bk 9, .blk (.cells [.own 32 g.lat.length, .own 36 es'.length])), (bk 32, .blk (.app 1 g.lat.length [.ints .i64 l'])), (bk 36, .blk (.app 4 es'.length (edgCols es')))]) ?_ (St.le_cons rfl (St.le_cons rfl (St.le_cons (by rw [← hl']; rfl) (St.le_cons rfl (St.le_nil _)))))
              refine WPA.ghost (Ghost.cellFreeze (lb := 9) (j := 0) (l := 32) (g := fun k => [Col.at (.ints .i64 l') k]) rfl rfl rfl rfl (fun k hk => rfl) rfl) ?_
              refine WPA.ghost (Ghost.cellFreeze (lb := 9) (j := 1) (l := 36) (g := fun k => (es'.getD k default).ds) rfl rfl rfl rfl (fun k hk => edg_row hk) rfl) ?_
              refine WPA.ghost (Ghost.reblk (l := 9) (B' := .data (⟨l', es'⟩ : Gr).ds) rfl (fun V M w h => by
                have e : (⟨l', es'⟩ : Gr).ds = [.rows 1 g.lat.length (fun k => [Col.at (.ints .i64 l') k]), .rows 4 es'.length (fun k => (es'.getD k default).ds)] := by show [intsD l', edgesD es'] = _; unfold intsD rowsD; rw [hEll]; rfl
                rw [e]; exact h)) ?_
              apply WPA.region
              · first | apply Trace.pu [_] (.loadAllD ty25 (.plain rfl) rfl (by simp)) | apply Trace.pu [_] (.loadLocD ty25 (.plain rfl) rfl (fun _ => by simp)) | apply Trace.pu [_] (.loadLoc ty25 (.plain rfl) rfl (fun _ => Nat.le_of_ble_eq_true rfl)) | apply Trace.pu [] (.loadRp ty25 (.plain rfl) (fun _ => by decide)) | apply Trace.pu [] (.loadRp ty25 (.plain rfl) (fun _ => Nat.le_of_ble_eq_true rfl)) | apply Trace.pu [_] (.loadCol ty25 (.plain rfl) rfl rfl (fun _ => by decide) (fun _ => by omega)) | apply Trace.pu [_] (.loadArr ty25 (.plain rfl) rfl)
                apply Trace.cu (callArgs0 (.cons (.plain rfl) .nil)) (chN hsz hckx) en12
                apply Trace.pu [] (.cmp (.plain rfl) (.plain rfl) rfl)
                apply Trace.pu [] (.assign (.plain rfl))
                exact .nil _
              · exact keepOK_of hk hn rfl
              apply WPA.ret
              refine ⟨.inr rfl, ⟨_, (.cons (.tmp rfl) .nil), ?_⟩, by simp [St.get]⟩
              rfl
            · obtain ⟨l', hl', hEl⟩ : ∃ l', g.lat = l' ∧ EasyL g l' := ⟨_, rfl, easyL_self hok⟩
              apply WPA.skip
              apply WPA.seq
              have hEll := hEl.len
              obtain ⟨hsz, hckx⟩ := easier hck hEl hEs
              refine WPA.weaken (T := [(sl 9, .av (.loc 9 0)), (bk 9, .blk (.cells [.own 32 g.lat.length, .own 36 es'.length])), (bk 32, .blk (.app 1 g.lat.length [.ints .i64 l'])), (bk 36, .blk (.app 4 es'.length (edgCols es')))]) ?_ (St.le_cons rfl (St.le_cons rfl (St.le_cons (by rw [← hl']; rfl) (St.le_cons rfl (St.le_nil _)))))
              refine WPA.ghost (Ghost.cellFreeze (lb := 9) (j := 0) (l := 32) (g := fun k => [Col.at (.ints .i64 l') k]) rfl rfl rfl rfl (fun k hk => rfl) rfl) ?_
              refine WPA.ghost (Ghost.cellFreeze (lb := 9) (j := 1) (l := 36) (g := fun k => (es'.getD k default).ds) rfl rfl rfl rfl (fun k hk => edg_row hk) rfl) ?_
              refine WPA.ghost (Ghost.reblk (l := 9) (B' := .data (⟨l', es'⟩ : Gr).ds) rfl (fun V M w h => by
                have e : (⟨l', es'⟩ : Gr).ds = [.rows 1 g.lat.length (fun k => [Col.at (.ints .i64 l') k]), .rows 4 es'.length (fun k => (es'.getD k default).ds)] := by show [intsD l', edgesD es'] = _; unfold intsD rowsD; rw [hEll]; rfl
                rw [e]; exact h)) ?_
              apply WPA.region
              · first | apply Trace.pu [_] (.loadAllD ty25 (.plain rfl) rfl (by simp)) | apply Trace.pu [_] (.loadLocD ty25 (.plain rfl) rfl (fun _ => by simp)) | apply Trace.pu [_] (.loadLoc ty25 (.plain rfl) rfl (fun _ => Nat.le_of_ble_eq_true rfl)) | apply Trace.pu [] (.loadRp ty25 (.plain rfl) (fun _ => by decide)) | apply Trace.pu [] (.loadRp ty25 (.plain rfl) (fun _ => Nat.le_of_ble_eq_true rfl)) | apply Trace.pu [_] (.loadCol ty25 (.plain rfl) rfl rfl (fun _ => by decide) (fun _ => by omega)) | apply Trace.pu [_] (.loadArr ty25 (.plain rfl) rfl)
                apply Trace.cu (callArgs0 (.cons (.plain rfl) .nil)) (chN hsz hckx) en12
                apply Trace.pu [] (.cmp (.plain rfl) (.plain rfl) rfl)
                apply Trace.pu [] (.assign (.plain rfl))
                exact .nil _
              · exact keepOK_of hk hn rfl
              apply WPA.ret
              refine ⟨.inr rfl, ⟨_, (.cons (.tmp rfl) .nil), ?_⟩, by simp [St.get]⟩
              rfl
          · obtain ⟨b65, hb65⟩ : ∃ b65, b % 65 = b65 := ⟨_, rfl⟩
            have hwl : (g.es.map (·.w)).length = g.es.length := by simp
            obtain ⟨es', hes, hEs⟩ : ∃ es', g.es.set ie ⟨e.f, e.t, (b65 : Int), e.d⟩ = es' ∧ EasyE g es' := ⟨_, rfl, easyE_set hok hiem (by rw [he]) (by rw [he]) (by rw [he]; exact Int.le_refl _) (by show 0 ≤ (b65 : Int) ∧ (b65 : Int) ≤ 64 ∧ e.d ≤ 1048576; omega)⟩
            have hel : es'.length = g.es.length := by rw [← hes]; simp
            have hcol : [Col.ints .i64 (g.es.map (·.f)), .ints .i64 (g.es.map (·.t)), .ints .i64 ((g.es.map (·.w)).set ie (b65 : Int)), .ints .i64 (g.es.map (·.d))] = edgCols es' := by
              rw [← hes]
              unfold edgCols
              rw [map_set_same (·.f) hiem (by rw [he]), map_set_same (·.t) hiem (by rw [he]), map_set_same (·.d) hiem (by rw [he]), List.map_set]
            apply WPA.region
            · apply Trace.pu [] (.fieldAddr fl25_1 (.plain rfl) rfl)
              first | apply Trace.pu [_] (.loadLoc1D ty23 (.plain rfl) rfl rfl) | apply Trace.pu [_] (.loadLoc1 ty23 (.plain rfl) rfl rfl) | apply Trace.pu [] (.loadRp1 ty23 (.plain rfl) rfl) | apply Trace.pu [_] (.loadCol1 ty23 (.plain rfl) rfl rfl rfl (fun _ => by omega))
              apply Trace.pu [] (.move (.plain rfl))
              apply Trace.pu [] (.move (.plain rfl))
              apply Trace.pu [] ((Pure.conv Try.underlying5 Try.underlying3 (.plain rfl)).to (y := iv .i64 (b : Nat)) (by rw [wrapI (by omega)]))
              apply Trace.pu [] ((Pure.rem (.plain rfl) (.plain rfl) (fun _ => by decide)).to (y := iv .i64 (b65 : Nat)) (by show iv .i64 (((b : Nat) : Int).tmod ((65 : Nat) : Int)) = _; rw [← Int.ofNat_tmod, hb65]))
              first | apply Trace.pu [] (.indexRows el23 (.plain rfl) (.plain rfl) (fun _ => ⟨by omega, by omega⟩)) | apply Trace.pu [] (.indexOwn el23 (.plain rfl) (.plain rfl) (fun _ => ⟨by omega, by omega⟩)) | apply Trace.pu [] (.indexSl el23 (.plain rfl) (.plain rfl) (fun _ => ⟨by omega, by omega⟩))
              apply Trace.pu [] (.fieldAddr fl40_2 (.plain rfl) rfl)
              first | apply Trace.storeD ty3 (.plain rfl) (.plain rfl) rfl rfl rfl (by simp [AV.oneB, single]) (Nat.le_of_ble_eq_true rfl) rfl | apply Trace.storeDA ty3 (.plain rfl) (.plain rfl) rfl rfl rfl (by simp [AV.oneB, single]) (Nat.le_of_ble_eq_true rfl) rfl | apply Trace.storeLoc ty3 (.plain rfl) (.plain rfl) rfl rfl rfl (by simp [AV.oneB, single]) (Nat.le_of_ble_eq_true rfl) rfl | apply Trace.storeRow ty3 (.plain rfl) (.plain rfl) rfl rfl rfl rfl (by decide) (by simp [AV.oneB, single]) rfl (by omega)
              exact .nil _
            · exact keepOK_of hk hn rfl
            apply WPA.seq
            apply WPA.seq
            refine WPA.weaken (T := [(sl 1, .av (iv .u8 (a : Nat))), (sl 3, .av (iv .u8 (b : Nat))), (sl 9, .av (.loc 9 0)), (bk 9, .blk (.cells [.own 32 g.lat.length, .own 36 es'.length])), (bk 32, .blk (.app 1 g.lat.length [.ints .i64 g.lat])), (bk 36, .blk (.app 4 es'.length (edgCols es')))]) ?_ (St.le_cons rfl (St.le_cons rfl (St.le_cons rfl (St.le_cons (by rw [hel]; rfl) (St.le_cons rfl (St.le_cons (by rw [hel, ← hcol]; rfl) (St.le_nil _)))))))
            apply WPA.region
            · apply Trace.pu [] (.fieldAddr fl25_0 (.plain rfl) rfl)
              first | apply Trace.pu [_] (.loadLoc1D ty22 (.plain rfl) rfl rfl) | apply Trace.pu [_] (.loadLoc1 ty22 (.plain rfl) rfl rfl) | apply Trace.pu [] (.loadRp1 ty22 (.plain rfl) rfl) | apply Trace.pu [_] (.loadCol1 ty22 (.plain rfl) rfl rfl rfl (fun _ => by omega))
              apply Trace.pu [] (.len rfl Try.underlying22 (.plain rfl) rfl)
              apply Trace.pu [] (.cmp (.plain rfl) (.plain rfl) rfl)
              exact .nil _
            · exact keepOK_of hk hn rfl
            refine WPA.cond rfl (fun hc8 => ?_) (fun hc8 => ?_)
            · have hnp : 0 < g.lat.length := by
                have h9 : (0 : Int) < g.lat.length := by simpa using hc8
                omega
              obtain ⟨j, hj⟩ : ∃ j, a % g.lat.length = j := ⟨_, rfl⟩
              have hjn : j < g.lat.length := by rw [← hj]; exact Nat.mod_lt _ hnp
              obtain ⟨b8, hb8⟩ : ∃ b8, b % 8 = b8 := ⟨_, rfl⟩
              have hlj := Gr.lat_at hok j
              have hlj2 : 0 ≤ g.lat.getD ((j : Nat) : Int).toNat 0 ∧ g.lat.getD ((j : Nat) : Int).toNat 0 ≤ 4096 := hlj
              have hll : g.lat.length = g.lat.length := rfl
              obtain ⟨l', hl', hEl⟩ : ∃ l', g.lat.set j (max 0 (g.lat.getD j 0 - (b8 : Int))) = l' ∧ EasyL g l' := ⟨_, rfl, easyL_set hok hjn (by omega)⟩
              apply WPA.seq
              apply WPA.region
              · apply Trace.pu [] (.move (.plain rfl))
                apply Trace.pu [] ((Pure.conv Try.underlying5 Try.underlying3 (.plain rfl)).to (y := iv .i64 (a : Nat)) (by rw [wrapI (by omega)]))
                apply Trace.pu [] (.fieldAddr fl25_0 (.plain rfl) rfl)
                first | apply Trace.pu [_] (.loadLoc1D ty22 (.plain rfl) rfl rfl) | apply Trace.pu [_] (.loadLoc1 ty22 (.plain rfl) rfl rfl) | apply Trace.pu [] (.loadRp1 ty22 (.plain rfl) rfl) | apply Trace.pu [_] (.loadCol1 ty22 (.plain rfl) rfl rfl rfl (fun _ => by omega))
                apply Trace.pu [] (.len rfl Try.underlying22 (.plain rfl) rfl)
                apply Trace.pu [] ((Pure.rem (.plain rfl) (.plain rfl) (fun _ => by omega)).to (y := iv .i64 (j : Nat)) (by rw [← Int.ofNat_tmod, hj]))
                apply Trace.pu [] (.assign (.plain rfl))
                exact .nil _
              · exact keepOK_of hk hn rfl
              apply WPA.draw mixed
              · apply Trace.pu [] (.fieldAddr fl25_0 (.plain rfl) rfl)
                first | apply Trace.pu [_] (.loadLoc1D ty22 (.plain rfl) rfl rfl) | apply Trace.pu [_] (.loadLoc1 ty22 (.plain rfl) rfl rfl) | apply Trace.pu [] (.loadRp1 ty22 (.plain rfl) rfl) | apply Trace.pu [_] (.loadCol1 ty22 (.plain rfl) rfl rfl rfl (fun _ => by omega))
                apply Trace.pu [] (.move (.plain rfl))
                apply Trace.pu [] (.fieldAddr fl25_0 (.plain rfl) rfl)
                first | apply Trace.pu [_] (.loadLoc1D ty22 (.plain rfl) rfl rfl) | apply Trace.pu [_] (.loadLoc1 ty22 (.plain rfl) rfl rfl) | apply Trace.pu [] (.loadRp1 ty22 (.plain rfl) rfl) | apply Trace.pu [_] (.loadCol1 ty22 (.plain rfl) rfl rfl rfl (fun _ => by omega))
                apply Trace.pu [] (.move (.plain rfl))
                first | apply Trace.pu [] (.indexRows el22 (.plain rfl) (.plain rfl) (fun _ => ⟨by omega, by omega⟩)) | apply Trace.pu [] (.indexOwn el22 (.plain rfl) (.plain rfl) (fun _ => ⟨by omega, by omega⟩)) | apply Trace.pu [] (.indexSl el22 (.plain rfl) (.plain rfl) (fun _ => ⟨by omega, by omega⟩))
                first | apply Trace.pu [_] (.loadLoc1D ty3 (.plain rfl) rfl rfl) | apply Trace.pu [_] (.loadLoc1 ty3 (.plain rfl) rfl rfl) | apply Trace.pu [] (.loadRp1 ty3 (.plain rfl) rfl) | apply Trace.pu [_] (.loadCol1 ty3 (.plain rfl) rfl rfl rfl (fun _ => by omega))
                apply Trace.pu [] (.move (.plain rfl))
                apply Trace.pu [] ((Pure.conv Try.underlying5 Try.underlying3 (.plain rfl)).to (y := iv .i64 (b : Nat)) (by rw [wrapI (by omega)]))
                apply Trace.pu [] ((Pure.rem (.plain rfl) (.plain rfl) (fun _ => by decide)).to (y := iv .i64 (b8 : Nat)) (by show iv .i64 (((b : Nat) : Int).tmod ((8 : Nat) : Int)) = _; rw [← Int.ofNat_tmod, hb8]))
                apply Trace.pu [] (.arith (.plain rfl) (.plain rfl) rfl (fun _ => bd64 (by omega)))
                apply Trace.pu [] (.max2 (.plain rfl) (.plain rfl))
                first | apply Trace.pu [] (.indexRows el22 (.plain rfl) (.plain rfl) (fun _ => ⟨by omega, by omega⟩)) | apply Trace.pu [] (.indexOwn el22 (.plain rfl) (.plain rfl) (fun _ => ⟨by omega, by omega⟩)) | apply Trace.pu [] (.indexSl el22 (.plain rfl) (.plain rfl) (fun _ => ⟨by omega, by omega⟩))
                first | apply Trace.storeD ty3 (.plain rfl) (.plain rfl) rfl rfl rfl (by simp [AV.oneB, single]) (Nat.le_of_ble_eq_true rfl) rfl | apply Trace.storeDA ty3 (.plain rfl) (.plain rfl) rfl rfl rfl (by simp [AV.oneB, single]) (Nat.le_of_ble_eq_true rfl) rfl | apply Trace.storeLoc ty3 (.plain rfl) (.plain rfl) rfl rfl rfl (by simp [AV.oneB, single]) (Nat.le_of_ble_eq_true rfl) rfl | apply Trace.storeRow ty3 (.plain rfl) (.plain rfl) rfl rfl rfl rfl (by decide) (by simp [AV.oneB, single]) rfl (by omega)
                exact .nil _
              · rfl
              · exact keepOK_of hk hn rfl
              apply WPA.seq
              have hEll := hEl.len
              obtain ⟨hsz, hckx⟩ := easier hck hEl hEs
              refine WPA.weaken (T := [(sl 9, .av (.loc 9 0)), (bk 9, .blk (.cells [.own 32 g.lat.length, .own 36 es'.length])), (bk 32, .blk (.app 1 g.lat.length [.ints .i64 l'])), (bk 36, .blk (.app 4 es'.length (edgCols es')))]) ?_ (St.le_cons rfl (St.le_cons rfl (St.le_cons (by rw [← hl']; rfl) (St.le_cons rfl (St.le_nil _)))))
              refine WPA.ghost (Ghost.cellFreeze (lb := 9) (j := 0) (l := 32) (g := fun k => [Col.at (.ints .i64 l') k]) rfl rfl rfl rfl (fun k hk => rfl) rfl) ?_
              refine WPA.ghost (Ghost.cellFreeze (lb := 9) (j := 1) (l := 36) (g := fun k => (es'.getD k default).ds) rfl rfl rfl rfl (fun k hk => edg_row hk) rfl) ?_
              refine WPA.ghost (Ghost.reblk (l := 9) (B' := .data (⟨l', es'⟩ : Gr).ds) rfl (fun V M w h => by
                have e : (⟨l', es'⟩ : Gr).ds = [.rows 1 g.lat.length (fun k => [Col.at (.ints .i64 l') k]), .rows 4 es'.length (fun k => (es'.getD k default).ds)] := by show [intsD l', edgesD es'] = _; unfold intsD rowsD; rw [hEll]; rfl
                rw [e]; exact h)) ?_
              apply WPA.region
              · first | apply Trace.pu [_] (.loadAllD ty25 (.plain rfl) rfl (by simp)) | apply Trace.pu [_] (.loadLocD ty25 (.plain rfl) rfl (fun _ => by simp)) | apply Trace.pu [_] (.loadLoc ty25 (.plain rfl) rfl (fun _ => Nat.le_of_ble_eq_true rfl)) | apply Trace.pu [] (.loadRp ty25 (.plain rfl) (fun _ => by decide)) | apply Trace.pu [] (.loadRp ty25 (.plain rfl) (fun _ => Nat.le_of_ble_eq_true rfl)) | apply Trace.pu [_] (.loadCol ty25 (.plain rfl) rfl rfl (fun _ => by decide) (fun _ => by omega)) | apply Trace.pu [_] (.loadArr ty25 (.plain rfl) rfl)
                apply Trace.cu (callArgs0 (.cons (.plain rfl) .nil)) (chN hsz hckx) en12
                apply Trace.pu [] (.cmp (.plain rfl) (.plain rfl) rfl)
                apply Trace.pu [] (.assign (.plain rfl))
                exact .nil _
              · exact keepOK_of hk hn rfl
              apply WPA.ret
              refine ⟨.inr rfl, ⟨_, (.cons (.tmp rfl) .nil), ?_⟩, by simp [St.get]⟩
              rfl
            · obtain ⟨l', hl', hEl⟩ : ∃ l', g.lat = l' ∧ EasyL g l' := ⟨_, rfl, easyL_self hok⟩
              apply WPA.skip
              apply WPA.seq
              have hEll := hEl.len
              obtain ⟨hsz, hckx⟩ := easier hck hEl hEs
              refine WPA.weaken (T := [(sl 9, .av (.loc 9 0)), (bk 9, .blk (.cells [.own 32 g.lat.length, .own 36 es'.length])), (bk 32, .blk (.app 1 g.lat.length [.ints .i64 l'])), (bk 36, .blk (.app 4 es'.length (edgCols es')))]) ?_ (St.le_cons rfl (St.le_cons rfl (St.le_cons (by rw [← hl']; rfl) (St.le_cons rfl (St.le_nil _)))))
              refine WPA.ghost (Ghost.cellFreeze (lb := 9) (j := 0) (l := 32) (g := fun k => [Col.at (.ints .i64 l') k]) rfl rfl rfl rfl (fun k hk => rfl) rfl) ?_
              refine WPA.ghost (Ghost.cellFreeze (lb := 9) (j := 1) (l := 36) (g := fun k => (es'.getD k default).ds) rfl rfl rfl rfl (fun k hk => edg_row hk) rfl) ?_
              refine WPA.ghost (Ghost.reblk (l := 9) (B' := .data (⟨l', es'⟩ : Gr).ds) rfl (fun V M w h => by
                have e : (⟨l', es'⟩ : Gr).ds = [.rows 1 g.lat.length (fun k => [Col.at (.ints .i64 l') k]), .rows 4 es'.length (fun k => (es'.getD k default).ds)] := by show [intsD l', edgesD es'] = _; unfold intsD rowsD; rw [hEll]; rfl
                rw [e]; exact h)) ?_
              apply WPA.region
              · first | apply Trace.pu [_] (.loadAllD ty25 (.plain rfl) rfl (by simp)) | apply Trace.pu [_] (.loadLocD ty25 (.plain rfl) rfl (fun _ => by simp)) | apply Trace.pu [_] (.loadLoc ty25 (.plain rfl) rfl (fun _ => Nat.le_of_ble_eq_true rfl)) | apply Trace.pu [] (.loadRp ty25 (.plain rfl) (fun _ => by decide)) | apply Trace.pu [] (.loadRp ty25 (.plain rfl) (fun _ => Nat.le_of_ble_eq_true rfl)) | apply Trace.pu [_] (.loadCol ty25 (.plain rfl) rfl rfl (fun _ => by decide) (fun _ => by omega)) | apply Trace.pu [_] (.loadArr ty25 (.plain rfl) rfl)
                apply Trace.cu (callArgs0 (.cons (.plain rfl) .nil)) (chN hsz hckx) en12
                apply Trace.pu [] (.cmp (.plain rfl) (.plain rfl) rfl)
                apply Trace.pu [] (.assign (.plain rfl))
                exact .nil _
              · exact keepOK_of hk hn rfl
              apply WPA.ret
              refine ⟨.inr rfl, ⟨_, (.cons (.tmp rfl) .nil), ?_⟩, by simp [St.get]⟩
              rfl
      · obtain ⟨es', hes, hEs⟩ : ∃ es', g.es = es' ∧ EasyE g es' := ⟨_, rfl, easyE_self hok⟩
        have hel : es'.length = g.es.length := by rw [← hes]
        have hcol : edgCols g.es = edgCols es' := by rw [← hes]
        apply WPA.skip
        apply WPA.seq
        apply WPA.seq
        refine WPA.weaken (T := [(sl 1, .av (iv .u8 (a : Nat))), (sl 3, .av (iv .u8 (b : Nat))), (sl 9, .av (.loc 9 0)), (bk 9, .blk (.cells [.own 32 g.lat.length, .own 36 es'.length])), (bk 32, .blk (.app 1 g.lat.length [.ints .i64 g.lat])), (bk 36, .blk (.app 4 es'.length (edgCols es')))]) ?_ (St.le_cons rfl (St.le_cons rfl (St.le_cons rfl (St.le_cons (by rw [hel]; rfl) (St.le_cons rfl (St.le_cons (by rw [hel, ← hcol]; rfl) (St.le_nil _)))))))
        apply WPA.region
        · apply Trace.pu [] (.fieldAddr fl25_0 (.plain rfl) rfl)
          first | apply Trace.pu [_] (.loadLoc1D ty22 (.plain rfl) rfl rfl) | apply Trace.pu [_] (.loadLoc1 ty22 (.plain rfl) rfl rfl) | apply Trace.pu [] (.loadRp1 ty22 (.plain rfl) rfl) | apply Trace.pu [_] (.loadCol1 ty22 (.plain rfl) rfl rfl rfl (fun _ => by omega))
          apply Trace.pu [] (.len rfl Try.underlying22 (.plain rfl) rfl)
          apply Trace.pu [] (.cmp (.plain rfl) (.plain rfl) rfl)
          exact .nil _
        · exact keepOK_of hk hn rfl
        refine WPA.cond rfl (fun hc9 => ?_) (fun hc9 => ?_)
        · have hnp : 0 < g.lat.length := by
            have h9 : (0 : Int) < g.lat.length := by simpa using hc9
            omega
          obtain ⟨j, hj⟩ : ∃ j, a % g.lat.length = j := ⟨_, rfl⟩
          have hjn : j < g.lat.length := by rw [← hj]; exact Nat.mod_lt _ hnp
          obtain ⟨b8, hb8⟩ : ∃ b8, b % 8 = b8 := ⟨_, rfl⟩
          have hlj := Gr.lat_at hok j
          have hlj2 : 0 ≤ g.lat.getD ((j : Nat) : Int).toNat 0 ∧ g.lat.getD ((j : Nat) : Int).toNat 0 ≤ 4096 := hlj
          have hll : g.lat.length = g.lat.length := rfl
          obtain ⟨l', hl', hEl⟩ : ∃ l', g.lat.set j (max 0 (g.lat.getD j 0 - (b8 : Int))) = l' ∧ EasyL g l' := ⟨_, rfl, easyL_set hok hjn (by omega)⟩
          apply WPA.seq
          apply WPA.region
          · apply Trace.pu [] (.move (.plain rfl))
            apply Trace.pu [] ((Pure.conv Try.underlying5 Try.underlying3 (.plain rfl)).to (y := iv .i64 (a : Nat)) (by rw [wrapI (by omega)]))
            apply Trace.pu [] (.fieldAddr fl25_0 (.plain rfl) rfl)
            first | apply Trace.pu [_] (.loadLoc1D ty22 (.plain rfl) rfl rfl) | apply Trace.pu [_] (.loadLoc1 ty22 (.plain rfl) rfl rfl) | apply Trace.pu [] (.loadRp1 ty22 (.plain rfl) rfl) | apply Trace.pu [_] (.loadCol1 ty22 (.plain rfl) rfl rfl rfl (fun _ => by omega))
            apply Trace.pu [] (.len rfl Try.underlying22 (.plain rfl) rfl)
            apply Trace.pu [] ((Pure.rem (.plain rfl) (.plain rfl) (fun _ => by omega)).to (y := iv .i64 (j : Nat)) (by rw [← Int.ofNat_tmod, hj]))
            apply Trace.pu [] (.assign (.plain rfl))
            exact .nil _
          · exact keepOK_of hk hn rfl
          apply WPA.draw mixed
          · apply Trace.pu [] (.fieldAddr fl25_0 (.plain rfl) rfl)
            first | apply Trace.pu [_] (.loadLoc1D ty22 (.plain rfl) rfl rfl) | apply Trace.pu [_] (.loadLoc1 ty22 (.plain rfl) rfl rfl) | apply Trace.pu [] (.loadRp1 ty22 (.plain rfl) rfl) | apply Trace.pu [_] (.loadCol1 ty22 (.plain rfl) rfl rfl rfl (fun _ => by omega))
            apply Trace.pu [] (.move (.plain rfl))
            apply Trace.pu [] (.fieldAddr fl25_0 (.plain rfl) rfl)
            first | apply Trace.pu [_] (.loadLoc1D ty22 (.plain rfl) rfl rfl) | apply Trace.pu [_] (.loadLoc1 ty22 (.plain rfl) rfl rfl) | apply Trace.pu [] (.loadRp1 ty22 (.plain rfl) rfl) | apply Trace.pu [_] (.loadCol1 ty22 (.plain rfl) rfl rfl rfl (fun _ => by omega))
            apply Trace.pu [] (.move (.plain rfl))
            first | apply Trace.pu [] (.indexRows el22 (.plain rfl) (.plain rfl) (fun _ => ⟨by omega, by omega⟩)) | apply Trace.pu [] (.indexOwn el22 (.plain rfl) (.plain rfl) (fun _ => ⟨by omega, by omega⟩)) | apply Trace.pu [] (.indexSl el22 (.plain rfl) (.plain rfl) (fun _ => ⟨by omega, by omega⟩))
            first | apply Trace.pu [_] (.loadLoc1D ty3 (.plain rfl) rfl rfl) | apply Trace.pu [_] (.loadLoc1 ty3 (.plain rfl) rfl rfl) | apply Trace.pu [] (.loadRp1 ty3 (.plain rfl) rfl) | apply Trace.pu [_] (.loadCol1 ty3 (.plain rfl) rfl rfl rfl (fun _ => by omega))
            apply Trace.pu [] (.move (.plain rfl))
            apply Trace.pu [] ((Pure.conv Try.underlying5 Try.underlying3 (.plain rfl)).to (y := iv .i64 (b : Nat)) (by rw [wrapI (by omega)]))
            apply Trace.pu [] ((Pure.rem (.plain rfl) (.plain rfl) (fun _ => by decide)).to (y := iv .i64 (b8 : Nat)) (by show iv .i64 (((b : Nat) : Int).tmod ((8 : Nat) : Int)) = _; rw [← Int.ofNat_tmod, hb8]))
            apply Trace.pu [] (.arith (.plain rfl) (.plain rfl) rfl (fun _ => bd64 (by omega)))
            apply Trace.pu [] (.max2 (.plain rfl) (.plain rfl))
            first | apply Trace.pu [] (.indexRows el22 (.plain rfl) (.plain rfl) (fun _ => ⟨by omega, by omega⟩)) | apply Trace.pu [] (.indexOwn el22 (.plain rfl) (.plain rfl) (fun _ => ⟨by omega, by omega⟩)) | apply Trace.pu [] (.indexSl el22 (.plain rfl) (.plain rfl) (fun _ => ⟨by omega, by omega⟩))
            first | apply Trace.storeD ty3 (.plain rfl) (.plain rfl) rfl rfl rfl (by simp [AV.oneB, single]) (Nat.le_of_ble_eq_true rfl) rfl | apply Trace.storeDA ty3 (.plain rfl) (.plain rfl) rfl rfl rfl (by simp [AV.oneB, single]) (Nat.le_of_ble_eq_true rfl) rfl | apply Trace.storeLoc ty3 (.plain rfl) (.plain rfl) rfl rfl rfl (by simp [AV.oneB, single]) (Nat.le_of_ble_eq_true rfl) rfl | apply Trace.storeRow ty3 (.plain rfl) (.plain rfl) rfl rfl rfl rfl (by decide) (by simp [AV.oneB, single]) rfl (by omega)
            exact .nil _
          · rfl
          · exact keepOK_of hk hn rfl
          apply WPA.seq
          have hEll := hEl.len
          obtain ⟨hsz, hckx⟩ := easier hck hEl hEs
          refine WPA.weaken (T := [(sl 9, .av (.loc 9 0)), (bk 9, .blk (.cells [.own 32 g.lat.length, .own 36 es'.length])), (bk 32, .blk (.app 1 g.lat.length [.ints .i64 l'])), (bk 36, .blk (.app 4 es'.length (edgCols es')))]) ?_ (St.le_cons rfl (St.le_cons rfl (St.le_cons (by rw [← hl']; rfl) (St.le_cons rfl (St.le_nil _)))))
          refine WPA.ghost (Ghost.cellFreeze (lb := 9) (j := 0) (l := 32) (g := fun k => [Col.at (.ints .i64 l') k]) rfl rfl rfl rfl (fun k hk => rfl) rfl) ?_
          refine WPA.ghost (Ghost.cellFreeze (lb := 9) (j := 1) (l := 36) (g := fun k => (es'.getD k default).ds) rfl rfl rfl rfl (fun k hk => edg_row hk) rfl) ?_
          refine WPA.ghost (Ghost.reblk (l := 9) (B' := .data (⟨l', es'⟩ : Gr).ds) rfl (fun V M w h => by
            have e : (⟨l', es'⟩ : Gr).ds = [.rows 1 g.lat.length (fun k => [Col.at (.ints .i64 l') k]), .rows 4 es'.length (fun k => (es'.getD k default).ds)] := by show [intsD l', edgesD es'] = _; unfold intsD rowsD; rw [hEll]; rfl
            rw [e]; exact h)) ?_
          apply WPA.region
          · first | apply Trace.pu [_] (.loadAllD ty25 (.plain rfl) rfl (by simp)) | apply Trace.pu [_] (.loadLocD ty25 (.plain rfl) rfl (fun _ => by simp)) | apply Trace.pu [_] (.loadLoc ty25 (.plain rfl) rfl (fun _ => Nat.le_of_ble_eq_true rfl)) | apply Trace.pu [] (.loadRp ty25 (.plain rfl) (fun _ => by decide)) | apply Trace.pu [] (.loadRp ty25 (.plain rfl) (fun _ => Nat.le_of_ble_eq_true rfl)) | apply Trace.pu [_] (.loadCol ty25 (.plain rfl) rfl rfl (fun _ => by decide) (fun _ => by omega)) | apply Trace.pu [_] (.loadArr ty25 (.plain rfl) rfl)
            apply Trace.cu (callArgs0 (.cons (.plain rfl) .nil)) (chN hsz hckx) en12
            apply Trace.pu [] (.cmp (.plain rfl) (.plain rfl) rfl)
            apply Trace.pu [] (.assign (.plain rfl))
            exact .nil _
          · exact keepOK_of hk hn rfl
          apply WPA.ret
          refine ⟨.inr rfl, ⟨_, (.cons (.tmp rfl) .nil), ?_⟩, by simp [St.get]⟩
          rfl
        · obtain ⟨l', hl', hEl⟩ : ∃ l', g.lat = l' ∧ EasyL g l' := ⟨_, rfl, easyL_self hok⟩
          apply WPA.skip
          apply WPA.seq
          have hEll := hEl.len
          obtain ⟨hsz, hckx⟩ := easier hck hEl hEs
          refine WPA.weaken (T := [(sl 9, .av (.loc 9 0)), (bk 9, .blk (.cells [.own 32 g.lat.length, .own 36 es'.length])), (bk 32, .blk (.app 1 g.lat.length [.ints .i64 l'])), (bk 36, .blk (.app 4 es'.length (edgCols es')))]) ?_ (St.le_cons rfl (St.le_cons rfl (St.le_cons (by rw [← hl']; rfl) (St.le_cons rfl (St.le_nil _)))))
          refine WPA.ghost (Ghost.cellFreeze (lb := 9) (j := 0) (l := 32) (g := fun k => [Col.at (.ints .i64 l') k]) rfl rfl rfl rfl (fun k hk => rfl) rfl) ?_
          refine WPA.ghost (Ghost.cellFreeze (lb := 9) (j := 1) (l := 36) (g := fun k => (es'.getD k default).ds) rfl rfl rfl rfl (fun k hk => edg_row hk) rfl) ?_
          refine WPA.ghost (Ghost.reblk (l := 9) (B' := .data (⟨l', es'⟩ : Gr).ds) rfl (fun V M w h => by
            have e : (⟨l', es'⟩ : Gr).ds = [.rows 1 g.lat.length (fun k => [Col.at (.ints .i64 l') k]), .rows 4 es'.length (fun k => (es'.getD k default).ds)] := by show [intsD l', edgesD es'] = _; unfold intsD rowsD; rw [hEll]; rfl
            rw [e]; exact h)) ?_
          apply WPA.region
          · first | apply Trace.pu [_] (.loadAllD ty25 (.plain rfl) rfl (by simp)) | apply Trace.pu [_] (.loadLocD ty25 (.plain rfl) rfl (fun _ => by simp)) | apply Trace.pu [_] (.loadLoc ty25 (.plain rfl) rfl (fun _ => Nat.le_of_ble_eq_true rfl)) | apply Trace.pu [] (.loadRp ty25 (.plain rfl) (fun _ => by decide)) | apply Trace.pu [] (.loadRp ty25 (.plain rfl) (fun _ => Nat.le_of_ble_eq_true rfl)) | apply Trace.pu [_] (.loadCol ty25 (.plain rfl) rfl rfl (fun _ => by decide) (fun _ => by omega)) | apply Trace.pu [_] (.loadArr ty25 (.plain rfl) rfl)
            apply Trace.cu (callArgs0 (.cons (.plain rfl) .nil)) (chN hsz hckx) en12
            apply Trace.pu [] (.cmp (.plain rfl) (.plain rfl) rfl)
            apply Trace.pu [] (.assign (.plain rfl))
            exact .nil _
          · exact keepOK_of hk hn rfl
          apply WPA.ret
          refine ⟨.inr rfl, ⟨_, (.cons (.tmp rfl) .nil), ?_⟩, by simp [St.get]⟩
          rfl

end Go.Proofs.Ytcnikeonaklkoaa

