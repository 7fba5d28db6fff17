/- The plan with positions: of the program, of the reference. -/
import Derived.Test.YtkieenlidehdgaaPlan1F
namespace Go.Proofs.Ytkieenlidehdgaa
open Go
set_option linter.unusedVariables false
set_option linter.unusedSimpArgs false
set_option maxRecDepth 10000

def Gr.delTo (g : Gr) (at_ : List Int) (i : Nat) : List Int := (List.range i).map (g.sl (fn at_))
def Gr.memTo (g : Gr) (at_ : List Int) (i : Nat) : Int := sm i fun i => g.sl (fn at_) i * (g.ed i).w
theorem delTo_succ (g : Gr) (at_ : List Int) (i : Nat) : g.delTo at_ (i + 1) = g.delTo at_ i ++ [g.sl (fn at_) i] := by simp [Gr.delTo, List.range_succ]
theorem memTo_succ (g : Gr) (at_ : List Int) (i : Nat) : g.memTo at_ (i + 1) = g.memTo at_ i + g.sl (fn at_) i * (g.ed i).w := rfl
/-- A plan, as data. -/
structure Pl where
  at_ : List Int
  del : List Int
  mem : Int
abbrev Pl.ds (p : Pl) : List D := [intsD p.at_, intsD p.del, .v (.int .i64 p.mem)]
abbrev Pl.d (p : Pl) : D := .agg p.ds
def Gr.planOf (g : Gr) (at_ : List Int) : Pl := ⟨at_, g.delTo at_ g.es.length, g.memTo at_ g.es.length⟩
theorem planOf_d (g : Gr) (at_ : List Int) : (g.planOf at_).d = .agg [intsD at_, rowsD 1 g.es.length [.ints .i64 (g.delTo at_ g.es.length)], .v (.int .i64 (g.memTo at_ g.es.length))] := by
  have e : (g.delTo at_ g.es.length).length = g.es.length := by simp [Gr.delTo]
  simp only [Pl.d, Pl.ds, Gr.planOf, intsD, e]
structure AtOK (g : Gr) (at_ : List Int) : Prop where
  len : at_.length = g.lat.length
  bd : ∀ v, 0 ≤ at_.getD v 0 ∧ at_.getD v 0 ≤ 4398046511104
theorem AtOK.wide {g : Gr} {at_ : List Int} (h : AtOK g at_) (v : Nat) : -1152921504606846976 ≤ at_.getD v 0 ∧ at_.getD v 0 ≤ 1152921504606846976 := by have := h.bd v; omega
theorem sl_bd {g : Gr} (hok : g.OK) {at_ : List Int} (h : AtOK g at_) {i : Nat} (hi : i < g.es.length) : -4398046515200 ≤ g.sl (fn at_) i ∧ g.sl (fn at_) i ≤ 4398047559680 ∧ -281475043819520 ≤ g.sl (fn at_) i * (g.ed i).w ∧ g.sl (fn at_) i * (g.ed i).w ≤ 281475043819520 := by
  have he := Gr.edge_mem hok (e := g.ed i) (Gr.edge hok hi).1
  have h1 := h.bd (g.ed i).t.toNat
  have h2 := h.bd (g.ed i).f.toNat
  have hs : g.sl (fn at_) i = at_.getD (g.ed i).t.toNat 0 + (g.ed i).d - at_.getD (g.ed i).f.toNat 0 - g.lat.getD (g.ed i).f.toNat 0 := rfl
  have ha : -4398046515200 ≤ g.sl (fn at_) i ∧ g.sl (fn at_) i ≤ 4398047559680 := by omega
  have hw : 0 ≤ (g.ed i).w ∧ (g.ed i).w ≤ 64 := ⟨he.2.2.2.2.1, he.2.2.2.2.2.1⟩
  generalize g.sl (fn at_) i = x at ha
  generalize (g.ed i).w = y at hw
  have a1 : x * y ≤ 4398047559680 * y := Int.mul_le_mul_of_nonneg_right ha.2 hw.1
  have a2 : -4398046515200 * y ≤ x * y := Int.mul_le_mul_of_nonneg_right ha.1 hw.1
  omega
theorem memTo_bd {g : Gr} (hok : g.OK) {at_ : List Int} (h : AtOK g at_) : ∀ i, i ≤ g.es.length → -4611686018427387904 - 10000000000000000 ≤ g.memTo at_ i ∧ g.memTo at_ i ≤ 4611686018427387904 + 10000000000000000 := by
  have key : ∀ i, i ≤ g.es.length → -((i : Int) * 281475043819520) ≤ g.memTo at_ i ∧ g.memTo at_ i ≤ (i : Int) * 281475043819520 := by
    intro i
    induction i with
    | zero => intro _; exact ⟨by show _ ≤ (0 : Int); omega, by show (0 : Int) ≤ _; omega⟩
    | succ i ih =>
      intro hi
      have a := ih (by omega)
      have b := sl_bd hok h (i := i) (by omega)
      rw [memTo_succ]
      omega
  intro i hi
  have := key i hi
  have := hok.m
  omega
/-- (soundpost/plan.positions).plan -/
theorem spec30 {g : Gr} (hok : g.OK) {at_ : List Int} (hat : AtOK g at_) : FnSpec Try.prog 30 [.d (intsD at_), g.av] [] (.d (g.planOf at_).d) [] [] := by
  have hn2 := hok.m
  have hn1 := hok.n
  refine fnSpec_of (rs := [.cell 4 32]) Try.func30 rfl rfl (Nat.le_of_ble_eq_true rfl) (by simp [St.get]) fun E hk hn => ?_
  apply WPA.seq
  apply WPA.region
  · first | apply Trace.boxD 3 [] (.plain rfl) rfl rfl | apply Trace.box 3 [] (.plain rfl) rfl rfl rfl
    apply Trace.alloc 4 [] (.data _) zo32 (cellsAs_data _) rfl
    exact .nil _
  · exact keepOK_of hk hn rfl
  apply WPA.seq
  apply WPA.region
  · apply Trace.pu [] (.move (.plain rfl))
    apply Trace.pu [] (.build zo32 pl32 (.cons (.plain rfl) rfl rfl (Nat.le_of_ble_eq_true rfl) (.nil _ _)) rfl)
    apply Trace.alloc 5 [] (.data _) zo32 (cellsAs_data _) rfl
    first | apply Trace.storeD ty32 (.plain rfl) (.plain rfl) rfl rfl (by simp [spliceL]) (by simp [AV.oneB, single, intsD, rowsD]) (by simp [spliceL]) (spliceL_all (by simp [spliceL])) | apply Trace.storeD ty32 (.plain rfl) (.plain rfl) rfl rfl (by simp [spliceL]) (by simp [AV.oneB, single, intsD, rowsD]) (by simp [spliceL]) rfl | apply Trace.storeDA ty32 (.plain rfl) (.plain rfl) rfl rfl (by simp [spliceL]) (by simp [AV.oneB, single]) (by simp [spliceL]) rfl | apply Trace.storeLoc ty32 (.plain rfl) (.plain rfl) rfl rfl (by simp [spliceL]) (by simp [AV.oneB, single]) (by simp) rfl | apply Trace.storeRow ty32 (.plain rfl) (.plain rfl) rfl rfl rfl rfl (by decide) (by simp [AV.oneB, single]) rfl (by omega)
    exact .nil _
  · exact keepOK_of hk hn rfl
  apply WPA.seq
  apply WPA.seq
  refine WPA.ghost (Ghost.dataCells (l := 5) rfl rfl) ?_
  refine WPA.ghost (Ghost.cellNil (lb := 5) (j := 1) (l := 90) (cols := [.ints .i64 []]) (n := 1) rfl rfl rfl rfl (by rw [hk]; decide) rfl (by simp [Col.len]) rfl) ?_
  apply WPA.region
  · apply Trace.pu [] (.fieldAddr fl25_1 (.plain rfl) rfl)
    first | apply Trace.pu [_] (.loadLoc1D ty23 (.plain rfl) rfl rfl) | apply Trace.pu [_] (.loadLoc1 ty23 (.plain rfl) rfl rfl) | apply Trace.pu [] (.loadRp1 ty23 (.plain rfl) rfl) | apply Trace.pu [_] (.loadCol1 ty23 (.plain rfl) rfl rfl rfl (fun _ => by omega))
    apply Trace.pu [] (.len rfl Try.underlying23 (.plain rfl) rfl)
    apply Trace.pu [] (.move (.plain rfl))
    exact .nil _
  · exact keepOK_of hk hn rfl
  apply WPA.block
  refine WPA.loop (σ := Nat) (fun i => [(sl 0, .av (.d (intsD at_))), (sl 3, .av (.loc 3 0)), (sl 4, .av (.loc 4 0)), (sl 5, .av (.loc 5 0)), (sl 12, .av (.d (edgesD g.es))), (sl 13, .av (iv .i64 (g.es.length))), (sl 14, .av (iv .i64 (i))), (bk 3, .blk (.data g.ds)), (bk 4, .blk (.data [.v (.slice none 0 0), .v (.slice none 0 0), .v (.int .i64 0)])), (bk 5, .blk (.cells [.d (intsD at_), .own 90 i, iv .i64 (g.memTo at_ i)])), (bk 90, .blk (.app 1 i [.ints .i64 (g.delTo at_ i)]))]) (fun i => i ≤ g.es.length) (fun i => g.es.length - i) 0
    (St.le_cons rfl (St.le_cons rfl (St.le_cons rfl (St.le_cons rfl (St.le_cons rfl (St.le_cons rfl (St.le_cons rfl (St.le_cons rfl (St.le_cons rfl (St.le_cons rfl (St.le_cons rfl (St.le_nil _)))))))))))) (Nat.zero_le _) fun i hi => ?_
  apply WPA.seq
  apply WPA.region
  · apply Trace.pu [] (.cmp (.plain rfl) (.plain rfl) rfl)
    exact .nil _
  · exact keepOK_of hk hn rfl
  apply WPA.seq
  refine WPA.cond rfl (fun hc1 => ?_) (fun hc1 => ?_)
  · have hlt : i < g.es.length := by simpa using hc1
    obtain ⟨e, he⟩ : ∃ e, g.es.getD i default = e := ⟨_, rfl⟩
    have hem : e ∈ g.es := by rw [← he]; exact (Gr.edge hok hlt).1
    have hsl : g.sl (fn at_) i = g.slE at_ e := by rw [← he]; rfl
    have hbd := sl_bd hok hat hlt
    have hmb := memTo_bd hok hat i hi
    have hmb2 := memTo_bd hok hat (i + 1) hlt
    rw [memTo_succ, show g.ed i = e from he] at hmb2
    rw [show g.ed i = e from he] at hbd
    have hms := memTo_succ g at_ i
    rw [show g.ed i = e from he, hsl] at hms
    have hds := delTo_succ g at_ i
    rw [hsl] at hds hbd hmb2
    apply WPA.skip
    apply WPA.seq
    apply WPA.block
    apply WPA.seq
    apply WPA.region
    · apply Trace.pu [] ((Pure.indexRows el23 (.plain rfl) (.plain rfl) (fun _ => ⟨by omega, by omega⟩)).to (y := .rp e.ds) (by show AV.rp (g.es.getD i default).ds = _; rw [he]))
      first | apply Trace.pu [_] (.loadAllD ty44 (.plain rfl) rfl (by simp [spliceL])) | apply Trace.pu [_] (.loadLocD ty44 (.plain rfl) rfl (fun _ => by simp [spliceL])) | apply Trace.pu [_] (.loadLoc ty44 (.plain rfl) rfl (fun _ => Nat.le_of_ble_eq_true rfl)) | apply Trace.pu [] (.loadRp ty44 (.plain rfl) (fun _ => by decide)) | apply Trace.pu [] (.loadRp ty44 (.plain rfl) (fun _ => Nat.le_of_ble_eq_true rfl)) | apply Trace.pu [_] (.loadCol ty44 (.plain rfl) rfl rfl (fun _ => by decide) (fun _ => by omega)) | apply Trace.pu [_] (.loadArr ty44 (.plain rfl) rfl)
      apply Trace.alloc 7 [] (.data _) zo44 (cellsAs_data _) rfl
      first | apply Trace.storeD ty44 (.plain rfl) (.plain rfl) rfl rfl (by simp [spliceL]) (by simp [AV.oneB, single, intsD, rowsD]) (by simp [spliceL]) (spliceL_all (by simp [spliceL])) | apply Trace.storeD ty44 (.plain rfl) (.plain rfl) rfl rfl (by simp [spliceL]) (by simp [AV.oneB, single, intsD, rowsD]) (by simp [spliceL]) rfl | apply Trace.storeDA ty44 (.plain rfl) (.plain rfl) rfl rfl (by simp [spliceL]) (by simp [AV.oneB, single]) (by simp [spliceL]) rfl | apply Trace.storeLoc ty44 (.plain rfl) (.plain rfl) rfl rfl (by simp [spliceL]) (by simp [AV.oneB, single]) (by simp) rfl | apply Trace.storeRow ty44 (.plain rfl) (.plain rfl) rfl rfl rfl rfl (by decide) (by simp [AV.oneB, single]) rfl (by omega)
      exact .nil _
    · exact keepOK_of hk hn rfl
    apply WPA.seq
    apply WPA.region
    · apply Trace.pu [] (.move (.plain rfl))
      first | apply Trace.pu [_] (.loadAllD ty25 (.plain rfl) rfl (by simp [spliceL])) | apply Trace.pu [_] (.loadLocD ty25 (.plain rfl) rfl (fun _ => by simp [spliceL])) | apply Trace.pu [_] (.loadLoc ty25 (.plain rfl) rfl (fun _ => Nat.le_of_ble_eq_true rfl)) | apply Trace.pu [] (.loadRp ty25 (.plain rfl) (fun _ => by decide)) | apply Trace.pu [] (.loadRp ty25 (.plain rfl) (fun _ => Nat.le_of_ble_eq_true rfl)) | apply Trace.pu [_] (.loadCol ty25 (.plain rfl) rfl rfl (fun _ => by decide) (fun _ => by omega)) | apply Trace.pu [_] (.loadArr ty25 (.plain rfl) rfl)
      first | apply Trace.pu [_] (.loadAllD ty44 (.plain rfl) rfl (by simp [spliceL])) | apply Trace.pu [_] (.loadLocD ty44 (.plain rfl) rfl (fun _ => by simp [spliceL])) | apply Trace.pu [_] (.loadLoc ty44 (.plain rfl) rfl (fun _ => Nat.le_of_ble_eq_true rfl)) | apply Trace.pu [] (.loadRp ty44 (.plain rfl) (fun _ => by decide)) | apply Trace.pu [] (.loadRp ty44 (.plain rfl) (fun _ => Nat.le_of_ble_eq_true rfl)) | apply Trace.pu [_] (.loadCol ty44 (.plain rfl) rfl rfl (fun _ => by decide) (fun _ => by omega)) | apply Trace.pu [_] (.loadArr ty44 (.plain rfl) rfl)
      apply Trace.cu (callArgs0 (.cons (.plain rfl) (.cons (.plain rfl) (.cons (.plain rfl) .nil)))) (slackD hok rfl hat.len.symm hat.wide hem) en42
      apply Trace.pu [] (.assign (.plain rfl))
      exact .nil _
    · exact keepOK_of hk hn rfl
    apply WPA.seq
    apply WPA.region
    · apply Trace.pu [] (.fieldAddr fl32_1 (.plain rfl) rfl)
      first | apply Trace.pu [_] (.loadLoc1D ty22 (.plain rfl) rfl rfl) | apply Trace.pu [_] (.loadLoc1 ty22 (.plain rfl) rfl rfl) | apply Trace.pu [] (.loadRp1 ty22 (.plain rfl) rfl) | apply Trace.pu [_] (.loadCol1 ty22 (.plain rfl) rfl rfl rfl (fun _ => by omega))
      apply Trace.pu [] (.move (.plain rfl))
      apply Trace.buildSlice 25 [] so22 zo3 rfl (by decide) (by decide) (.cons (.plain rfl) rfl rfl (Nat.le_of_ble_eq_true rfl) (.nil _ _)) rfl rfl rfl
      apply Trace.append 26 [bk 90, bk 25, sl 23, sl 25] ap22 kd22 (by decide) (.own (.plain rfl) rfl) (.own (.plain rfl) rfl) (Col.ones rfl) (labs_ok rfl) (by omega) (by omega) rfl rfl
      apply Trace.pu [] (.fieldAddr fl32_1 (.plain rfl) rfl)
      first | apply Trace.storeD ty22 (.plain rfl) (.plain rfl) rfl rfl rfl (by simp [AV.oneB, single]) (Nat.le_of_ble_eq_true rfl) rfl | apply Trace.storeDA ty22 (.plain rfl) (.plain rfl) rfl rfl rfl (by simp [AV.oneB, single]) (Nat.le_of_ble_eq_true rfl) rfl | apply Trace.storeLoc ty22 (.plain rfl) (.plain rfl) rfl rfl rfl (by simp [AV.oneB, single]) (Nat.le_of_ble_eq_true rfl) rfl | apply Trace.storeRow ty22 (.plain rfl) (.plain rfl) rfl rfl rfl rfl (by decide) (by simp [AV.oneB, single]) rfl (by omega)
      exact .nil _
    · exact keepOK_of hk hn rfl
    refine WPA.ghost (Ghost.swap 90 26 (by rw [hk]; decide) (by rw [hk]; decide) rfl) ?_
    apply WPA.region
    · apply Trace.pu [] (.fieldAddr fl32_2 (.plain rfl) rfl)
      first | apply Trace.pu [_] (.loadLoc1D ty3 (.plain rfl) rfl rfl) | apply Trace.pu [_] (.loadLoc1 ty3 (.plain rfl) rfl rfl) | apply Trace.pu [] (.loadRp1 ty3 (.plain rfl) rfl) | apply Trace.pu [_] (.loadCol1 ty3 (.plain rfl) rfl rfl rfl (fun _ => by omega))
      apply Trace.pu [] (.move (.plain rfl))
      apply Trace.pu [] (.fieldAddr fl44_2 (.plain rfl) rfl)
      first | apply Trace.pu [_] (.loadLoc1D ty3 (.plain rfl) rfl rfl) | apply Trace.pu [_] (.loadLoc1 ty3 (.plain rfl) rfl rfl) | apply Trace.pu [] (.loadRp1 ty3 (.plain rfl) rfl) | apply Trace.pu [_] (.loadCol1 ty3 (.plain rfl) rfl rfl rfl (fun _ => by omega))
      apply Trace.pu [] (.arith (.plain rfl) (.plain rfl) rfl (fun _ => bd64 (by omega)))
      apply Trace.pu [] (.arith (.plain rfl) (.plain rfl) rfl (fun _ => bd64 (by omega)))
      apply Trace.pu [] (.fieldAddr fl32_2 (.plain rfl) rfl)
      first | apply Trace.storeD ty3 (.plain rfl) (.plain rfl) rfl rfl rfl (by simp [AV.oneB, single]) (Nat.le_of_ble_eq_true rfl) rfl | apply Trace.storeDA ty3 (.plain rfl) (.plain rfl) rfl rfl rfl (by simp [AV.oneB, single]) (Nat.le_of_ble_eq_true rfl) rfl | apply Trace.storeLoc ty3 (.plain rfl) (.plain rfl) rfl rfl rfl (by simp [AV.oneB, single]) (Nat.le_of_ble_eq_true rfl) rfl | apply Trace.storeRow ty3 (.plain rfl) (.plain rfl) rfl rfl rfl rfl (by decide) (by simp [AV.oneB, single]) rfl (by omega)
      exact .nil _
    · exact keepOK_of hk hn rfl
    apply WPA.region
    · apply Trace.pu [] (.arith (.plain rfl) (.plain rfl) rfl (fun _ => bd64 (by omega)))
      apply Trace.pu [] (.move (.plain rfl))
      exact .nil _
    · exact keepOK_of hk hn rfl
    exact ⟨i + 1, by omega, by omega, St.le_cons rfl (St.le_cons rfl (St.le_cons rfl (St.le_cons rfl (St.le_cons rfl (St.le_cons rfl (St.le_cons (slI (by omega)) (St.le_cons rfl (St.le_cons rfl (St.le_cons (congrArg (fun z => some (Cont.blk (.cells [.d (intsD at_), .own 90 (i + 1), iv .i64 z]))) hms.symm) (St.le_cons (app_eq64 hds.symm) (St.le_nil _)))))))))))⟩
  · have him : i = g.es.length := by
      have : ¬ ((i : Int) < g.es.length) := by simpa using hc1
      omega
    subst him
    apply WPA.exit
    apply WPA.seq
    refine WPA.ghost (Ghost.cellFreeze (lb := 5) (j := 1) (l := 90) (g := fun k => [Col.at (.ints .i64 (g.delTo at_ g.es.length)) k]) rfl rfl rfl rfl (fun i hi => rfl) rfl) ?_
    apply WPA.region
    · first | apply Trace.pu [_] (.loadAllD ty32 (.plain rfl) rfl (by simp [spliceL])) | apply Trace.pu [_] (.loadLocD ty32 (.plain rfl) rfl (fun _ => by simp [spliceL])) | apply Trace.pu [_] (.loadLoc ty32 (.plain rfl) rfl (fun _ => Nat.le_of_ble_eq_true rfl)) | apply Trace.pu [] (.loadRp ty32 (.plain rfl) (fun _ => by decide)) | apply Trace.pu [] (.loadRp ty32 (.plain rfl) (fun _ => Nat.le_of_ble_eq_true rfl)) | apply Trace.pu [_] (.loadCol ty32 (.plain rfl) rfl rfl (fun _ => by decide) (fun _ => by omega)) | apply Trace.pu [_] (.loadArr ty32 (.plain rfl) rfl)
      first | apply Trace.storeD ty32 (.plain rfl) (.plain rfl) rfl rfl (by simp [spliceL]) (by simp [AV.oneB, single, intsD, rowsD]) (by simp [spliceL]) (spliceL_all (by simp [spliceL])) | apply Trace.storeD ty32 (.plain rfl) (.plain rfl) rfl rfl (by simp [spliceL]) (by simp [AV.oneB, single, intsD, rowsD]) (by simp [spliceL]) rfl | apply Trace.storeDA ty32 (.plain rfl) (.plain rfl) rfl rfl (by simp [spliceL]) (by simp [AV.oneB, single]) (by simp [spliceL]) rfl | apply Trace.storeLoc ty32 (.plain rfl) (.plain rfl) rfl rfl (by simp [spliceL]) (by simp [AV.oneB, single]) (by simp) rfl | apply Trace.storeRow ty32 (.plain rfl) (.plain rfl) rfl rfl rfl rfl (by decide) (by simp [AV.oneB, single]) rfl (by omega)
      exact .nil _
    · exact keepOK_of hk hn rfl
    apply WPA.ret
    refine ⟨.inr rfl, ⟨_, (.cons (.cellD rfl rfl ty32 rfl) .nil), ?_⟩, by simp [St.get]⟩
    rw [planOf_d]
    rfl

/-- soundpost/soundpostref23.with -/
theorem spec33 {g : Gr} (hok : g.OK) {at_ : List Int} (hat : AtOK g at_) : FnSpec Try.prog 33 [g.av, .d (intsD at_)] [] (.d (g.planOf at_).d) [] [] := by
  have hn2 := hok.m
  have hn1 := hok.n
  refine fnSpec_of (rs := [.cell 4 32]) Try.func33 rfl rfl (Nat.le_of_ble_eq_true rfl) (by simp [St.get]) fun E hk hn => ?_
  apply WPA.seq
  apply WPA.region
  · first | apply Trace.boxD 2 [] (.plain rfl) rfl rfl | apply Trace.box 2 [] (.plain rfl) rfl rfl rfl
    apply Trace.alloc 4 [] (.data _) zo32 (cellsAs_data _) rfl
    exact .nil _
  · exact keepOK_of hk hn rfl
  apply WPA.seq
  apply WPA.region
  · apply Trace.pu [] (.move (.plain rfl))
    apply Trace.pu [] (.build zo32 pl32 (.cons (.plain rfl) rfl rfl (Nat.le_of_ble_eq_true rfl) (.nil _ _)) rfl)
    apply Trace.alloc 5 [] (.data _) zo32 (cellsAs_data _) rfl
    first | apply Trace.storeD ty32 (.plain rfl) (.plain rfl) rfl rfl (by simp [spliceL]) (by simp [AV.oneB, single, intsD, rowsD]) (by simp [spliceL]) (spliceL_all (by simp [spliceL])) | apply Trace.storeD ty32 (.plain rfl) (.plain rfl) rfl rfl (by simp [spliceL]) (by simp [AV.oneB, single, intsD, rowsD]) (by simp [spliceL]) rfl | apply Trace.storeDA ty32 (.plain rfl) (.plain rfl) rfl rfl (by simp [spliceL]) (by simp [AV.oneB, single]) (by simp [spliceL]) rfl | apply Trace.storeLoc ty32 (.plain rfl) (.plain rfl) rfl rfl (by simp [spliceL]) (by simp [AV.oneB, single]) (by simp) rfl | apply Trace.storeRow ty32 (.plain rfl) (.plain rfl) rfl rfl rfl rfl (by decide) (by simp [AV.oneB, single]) rfl (by omega)
    exact .nil _
  · exact keepOK_of hk hn rfl
  apply WPA.seq
  apply WPA.seq
  refine WPA.ghost (Ghost.dataCells (l := 5) rfl rfl) ?_
  refine WPA.ghost (Ghost.cellNil (lb := 5) (j := 1) (l := 90) (cols := [.ints .i64 []]) (n := 1) rfl rfl rfl rfl (by rw [hk]; decide) rfl (by simp [Col.len]) rfl) ?_
  apply WPA.region
  · apply Trace.pu [] (.assign (.plain rfl))
    exact .nil _
  · exact keepOK_of hk hn rfl
  apply WPA.block
  refine WPA.loop (σ := Nat) (fun i => [(sl 1, .av (.d (intsD at_))), (sl 2, .av (.loc 2 0)), (sl 4, .av (.loc 4 0)), (sl 5, .av (.loc 5 0)), (sl 6, .av (iv .i64 (i))), (bk 2, .blk (.data g.ds)), (bk 4, .blk (.data [.v (.slice none 0 0), .v (.slice none 0 0), .v (.int .i64 0)])), (bk 5, .blk (.cells [.d (intsD at_), .own 90 i, iv .i64 (g.memTo at_ i)])), (bk 90, .blk (.app 1 i [.ints .i64 (g.delTo at_ i)]))]) (fun i => i ≤ g.es.length) (fun i => g.es.length - i) 0
    (St.le_cons rfl (St.le_cons rfl (St.le_cons rfl (St.le_cons rfl (St.le_cons rfl (St.le_cons rfl (St.le_cons rfl (St.le_cons rfl (St.le_cons rfl (St.le_nil _)))))))))) (Nat.zero_le _) fun i hi => ?_
  apply WPA.seq
  apply WPA.seq
  apply WPA.region
  · apply Trace.pu [] (.move (.plain rfl))
    apply Trace.pu [] (.fieldAddr fl25_1 (.plain rfl) rfl)
    first | apply Trace.pu [_] (.loadLoc1D ty23 (.plain rfl) rfl rfl) | apply Trace.pu [_] (.loadLoc1 ty23 (.plain rfl) rfl rfl) | apply Trace.pu [] (.loadRp1 ty23 (.plain rfl) rfl) | apply Trace.pu [_] (.loadCol1 ty23 (.plain rfl) rfl rfl rfl (fun _ => by omega))
    apply Trace.pu [] (.len rfl Try.underlying23 (.plain rfl) rfl)
    apply Trace.pu [] (.cmp (.plain rfl) (.plain rfl) rfl)
    exact .nil _
  · exact keepOK_of hk hn rfl
  refine WPA.cond rfl (fun hc1 => ?_) (fun hc1 => ?_)
  · have hlt : i < g.es.length := by simpa using hc1
    obtain ⟨e, he⟩ : ∃ e, g.es.getD i default = e := ⟨_, rfl⟩
    have hem : e ∈ g.es := by rw [← he]; exact (Gr.edge hok hlt).1
    have hsl : g.sl (fn at_) i = g.slE at_ e := by rw [← he]; rfl
    have hbd := sl_bd hok hat hlt
    have hmb := memTo_bd hok hat i hi
    have hmb2 := memTo_bd hok hat (i + 1) hlt
    rw [memTo_succ, show g.ed i = e from he] at hmb2
    rw [show g.ed i = e from he] at hbd
    have hms := memTo_succ g at_ i
    rw [show g.ed i = e from he, hsl] at hms
    have hds := delTo_succ g at_ i
    rw [hsl] at hds hbd hmb2
    apply WPA.skip
    apply WPA.seq
    apply WPA.block
    apply WPA.seq
    apply WPA.draw mixed
    · first | apply Trace.pu [_] (.loadAllD ty25 (.plain rfl) rfl (by simp [spliceL])) | apply Trace.pu [_] (.loadLocD ty25 (.plain rfl) rfl (fun _ => by simp [spliceL])) | apply Trace.pu [_] (.loadLoc ty25 (.plain rfl) rfl (fun _ => Nat.le_of_ble_eq_true rfl)) | apply Trace.pu [] (.loadRp ty25 (.plain rfl) (fun _ => by decide)) | apply Trace.pu [] (.loadRp ty25 (.plain rfl) (fun _ => Nat.le_of_ble_eq_true rfl)) | apply Trace.pu [_] (.loadCol ty25 (.plain rfl) rfl rfl (fun _ => by decide) (fun _ => by omega)) | apply Trace.pu [_] (.loadArr ty25 (.plain rfl) rfl)
      apply Trace.pu [] (.fieldAddr fl25_1 (.plain rfl) rfl)
      first | apply Trace.pu [_] (.loadLoc1D ty23 (.plain rfl) rfl rfl) | apply Trace.pu [_] (.loadLoc1 ty23 (.plain rfl) rfl rfl) | apply Trace.pu [] (.loadRp1 ty23 (.plain rfl) rfl) | apply Trace.pu [_] (.loadCol1 ty23 (.plain rfl) rfl rfl rfl (fun _ => by omega))
      apply Trace.pu [] (.move (.plain rfl))
      apply Trace.pu [] ((Pure.indexRows el23 (.plain rfl) (.plain rfl) (fun _ => ⟨by omega, by omega⟩)).to (y := .rp e.ds) (by show AV.rp (g.es.getD i default).ds = _; rw [he]))
      first | apply Trace.pu [_] (.loadAllD ty44 (.plain rfl) rfl (by simp [spliceL])) | apply Trace.pu [_] (.loadLocD ty44 (.plain rfl) rfl (fun _ => by simp [spliceL])) | apply Trace.pu [_] (.loadLoc ty44 (.plain rfl) rfl (fun _ => Nat.le_of_ble_eq_true rfl)) | apply Trace.pu [] (.loadRp ty44 (.plain rfl) (fun _ => by decide)) | apply Trace.pu [] (.loadRp ty44 (.plain rfl) (fun _ => Nat.le_of_ble_eq_true rfl)) | apply Trace.pu [_] (.loadCol ty44 (.plain rfl) rfl rfl (fun _ => by decide) (fun _ => by omega)) | apply Trace.pu [_] (.loadArr ty44 (.plain rfl) rfl)
      apply Trace.pu [] (.move (.plain rfl))
      apply Trace.cu (callArgs0 (.cons (.plain rfl) (.cons (.plain rfl) (.cons (.plain rfl) .nil)))) (rslackD hok rfl hat.len.symm hat.wide hem) en40
      apply Trace.pu [] (.assign (.plain rfl))
      exact .nil _
    · rfl
    · exact keepOK_of hk hn rfl
    apply WPA.seq
    apply WPA.region
    · apply Trace.pu [] (.fieldAddr fl32_1 (.plain rfl) rfl)
      first | apply Trace.pu [_] (.loadLoc1D ty22 (.plain rfl) rfl rfl) | apply Trace.pu [_] (.loadLoc1 ty22 (.plain rfl) rfl rfl) | apply Trace.pu [] (.loadRp1 ty22 (.plain rfl) rfl) | apply Trace.pu [_] (.loadCol1 ty22 (.plain rfl) rfl rfl rfl (fun _ => by omega))
      apply Trace.pu [] (.move (.plain rfl))
      apply Trace.buildSlice 28 [] so22 zo3 rfl (by decide) (by decide) (.cons (.plain rfl) rfl rfl (Nat.le_of_ble_eq_true rfl) (.nil _ _)) rfl rfl rfl
      apply Trace.append 29 [bk 90, bk 28, sl 26, sl 28] ap22 kd22 (by decide) (.own (.plain rfl) rfl) (.own (.plain rfl) rfl) (Col.ones rfl) (labs_ok rfl) (by omega) (by omega) rfl rfl
      apply Trace.pu [] (.fieldAddr fl32_1 (.plain rfl) rfl)
      first | apply Trace.storeD ty22 (.plain rfl) (.plain rfl) rfl rfl rfl (by simp [AV.oneB, single]) (Nat.le_of_ble_eq_true rfl) rfl | apply Trace.storeDA ty22 (.plain rfl) (.plain rfl) rfl rfl rfl (by simp [AV.oneB, single]) (Nat.le_of_ble_eq_true rfl) rfl | apply Trace.storeLoc ty22 (.plain rfl) (.plain rfl) rfl rfl rfl (by simp [AV.oneB, single]) (Nat.le_of_ble_eq_true rfl) rfl | apply Trace.storeRow ty22 (.plain rfl) (.plain rfl) rfl rfl rfl rfl (by decide) (by simp [AV.oneB, single]) rfl (by omega)
      exact .nil _
    · exact keepOK_of hk hn rfl
    refine WPA.ghost (Ghost.swap 90 29 (by rw [hk]; decide) (by rw [hk]; decide) rfl) ?_
    apply WPA.draw mixed
    · apply Trace.pu [] (.fieldAddr fl32_2 (.plain rfl) rfl)
      first | apply Trace.pu [_] (.loadLoc1D ty3 (.plain rfl) rfl rfl) | apply Trace.pu [_] (.loadLoc1 ty3 (.plain rfl) rfl rfl) | apply Trace.pu [] (.loadRp1 ty3 (.plain rfl) rfl) | apply Trace.pu [_] (.loadCol1 ty3 (.plain rfl) rfl rfl rfl (fun _ => by omega))
      apply Trace.pu [] (.move (.plain rfl))
      apply Trace.pu [] (.fieldAddr fl25_1 (.plain rfl) rfl)
      first | apply Trace.pu [_] (.loadLoc1D ty23 (.plain rfl) rfl rfl) | apply Trace.pu [_] (.loadLoc1 ty23 (.plain rfl) rfl rfl) | apply Trace.pu [] (.loadRp1 ty23 (.plain rfl) rfl) | apply Trace.pu [_] (.loadCol1 ty23 (.plain rfl) rfl rfl rfl (fun _ => by omega))
      apply Trace.pu [] (.move (.plain rfl))
      apply Trace.pu [] ((Pure.indexRows el23 (.plain rfl) (.plain rfl) (fun _ => ⟨by omega, by omega⟩)).to (y := .rp e.ds) (by show AV.rp (g.es.getD i default).ds = _; rw [he]))
      apply Trace.pu [] (.fieldAddr fl44_2 (.plain rfl) rfl)
      first | apply Trace.pu [_] (.loadLoc1D ty3 (.plain rfl) rfl rfl) | apply Trace.pu [_] (.loadLoc1 ty3 (.plain rfl) rfl rfl) | apply Trace.pu [] (.loadRp1 ty3 (.plain rfl) rfl) | apply Trace.pu [_] (.loadCol1 ty3 (.plain rfl) rfl rfl rfl (fun _ => by omega))
      apply Trace.pu [] (.arith (.plain rfl) (.plain rfl) rfl (fun _ => bd64 (by omega)))
      apply Trace.pu [] (.arith (.plain rfl) (.plain rfl) rfl (fun _ => bd64 (by omega)))
      apply Trace.pu [] (.fieldAddr fl32_2 (.plain rfl) rfl)
      first | apply Trace.storeD ty3 (.plain rfl) (.plain rfl) rfl rfl rfl (by simp [AV.oneB, single]) (Nat.le_of_ble_eq_true rfl) rfl | apply Trace.storeDA ty3 (.plain rfl) (.plain rfl) rfl rfl rfl (by simp [AV.oneB, single]) (Nat.le_of_ble_eq_true rfl) rfl | apply Trace.storeLoc ty3 (.plain rfl) (.plain rfl) rfl rfl rfl (by simp [AV.oneB, single]) (Nat.le_of_ble_eq_true rfl) rfl | apply Trace.storeRow ty3 (.plain rfl) (.plain rfl) rfl rfl rfl rfl (by decide) (by simp [AV.oneB, single]) rfl (by omega)
      exact .nil _
    · rfl
    · exact keepOK_of hk hn rfl
    apply WPA.region
    · apply Trace.pu [] (.move (.plain rfl))
      apply Trace.pu [] (.arith (.plain rfl) (.plain rfl) rfl (fun _ => bd64 (by omega)))
      apply Trace.pu [] (.assign (.plain rfl))
      exact .nil _
    · exact keepOK_of hk hn rfl
    exact ⟨i + 1, by omega, by omega, St.le_cons rfl (St.le_cons rfl (St.le_cons rfl (St.le_cons rfl (St.le_cons (slI (by omega)) (St.le_cons rfl (St.le_cons rfl (St.le_cons (congrArg (fun z => some (Cont.blk (.cells [.d (intsD at_), .own 90 (i + 1), iv .i64 z]))) hms.symm) (St.le_cons (app_eq64 hds.symm) (St.le_nil _)))))))))⟩
  · have him : i = g.es.length := by
      have : ¬ ((i : Int) < g.es.length) := by simpa using hc1
      omega
    subst him
    apply WPA.exit
    apply WPA.seq
    refine WPA.ghost (Ghost.cellFreeze (lb := 5) (j := 1) (l := 90) (g := fun k => [Col.at (.ints .i64 (g.delTo at_ g.es.length)) k]) rfl rfl rfl rfl (fun i hi => rfl) rfl) ?_
    apply WPA.region
    · first | apply Trace.pu [_] (.loadAllD ty32 (.plain rfl) rfl (by simp [spliceL])) | apply Trace.pu [_] (.loadLocD ty32 (.plain rfl) rfl (fun _ => by simp [spliceL])) | apply Trace.pu [_] (.loadLoc ty32 (.plain rfl) rfl (fun _ => Nat.le_of_ble_eq_true rfl)) | apply Trace.pu [] (.loadRp ty32 (.plain rfl) (fun _ => by decide)) | apply Trace.pu [] (.loadRp ty32 (.plain rfl) (fun _ => Nat.le_of_ble_eq_true rfl)) | apply Trace.pu [_] (.loadCol ty32 (.plain rfl) rfl rfl (fun _ => by decide) (fun _ => by omega)) | apply Trace.pu [_] (.loadArr ty32 (.plain rfl) rfl)
      first | apply Trace.storeD ty32 (.plain rfl) (.plain rfl) rfl rfl (by simp [spliceL]) (by simp [AV.oneB, single, intsD, rowsD]) (by simp [spliceL]) (spliceL_all (by simp [spliceL])) | apply Trace.storeD ty32 (.plain rfl) (.plain rfl) rfl rfl (by simp [spliceL]) (by simp [AV.oneB, single, intsD, rowsD]) (by simp [spliceL]) rfl | apply Trace.storeDA ty32 (.plain rfl) (.plain rfl) rfl rfl (by simp [spliceL]) (by simp [AV.oneB, single]) (by simp [spliceL]) rfl | apply Trace.storeLoc ty32 (.plain rfl) (.plain rfl) rfl rfl (by simp [spliceL]) (by simp [AV.oneB, single]) (by simp) rfl | apply Trace.storeRow ty32 (.plain rfl) (.plain rfl) rfl rfl rfl rfl (by decide) (by simp [AV.oneB, single]) rfl (by omega)
      exact .nil _
    · exact keepOK_of hk hn rfl
    apply WPA.ret
    refine ⟨.inr rfl, ⟨_, (.cons (.cellD rfl rfl ty32 rfl) .nil), ?_⟩, by simp [St.get]⟩
    rw [planOf_d]
    rfl

end Go.Proofs.Ytkieenlidehdgaa

