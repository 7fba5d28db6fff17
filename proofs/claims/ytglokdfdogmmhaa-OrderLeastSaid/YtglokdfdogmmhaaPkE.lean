import Derived.Test.YtglokdfdogmmhaaPkC
import Derived.Test.YtglokdfdogmmhaaPkG
/- The laws' own functions. -/
namespace Go.Proofs.Ytglokdfdogmmhaa
open Go
set_option linter.unusedVariables false
set_option linter.unusedSimpArgs false
set_option maxRecDepth 10000
set_option maxHeartbeats 2000000

/-- An edge that keeps a later list behind. -/
def Gr.earE (g : Gr) (z : Nat → Bool) (at_ : List Int) (i j : Int) (k : Nat) : Bool := bif (bif (bif z k then decide (at_.getD (g.es.getD k default).t.toNat 0 = j) else false) then decide (i ≤ at_.getD (g.es.getD k default).f.toNat 0) else false) then decide (at_.getD (g.es.getD k default).f.toNat 0 < j) else false
theorem earE_of {g : Gr} {z : Nat → Bool} {at_ : List Int} {i j : Int} {k : Nat} (h1 : z k = true) (h2 : at_.getD (g.es.getD k default).t.toNat 0 = j) (h3 : i ≤ at_.getD (g.es.getD k default).f.toNat 0) (h4 : at_.getD (g.es.getD k default).f.toNat 0 < j) : g.earE z at_ i j k = true := by
  unfold Gr.earE
  rw [h1, decide_eq_true h2, decide_eq_true h3, decide_eq_true h4]; rfl
def Gr.short22 (g : Gr) (dl : List Int) : Bool := (g.few22 && decide (g.check = 0) && decide (dl.length = g.es.length)) && dl.all fun x => decide (0 ≤ x)
theorem short22_of {g : Gr} {dl : List Int} (h : g.short22 dl = true) : g.few22 = true ∧ g.check = 0 ∧ dl.length = g.es.length ∧ g.dlBad dl = false := by
  unfold Gr.short22 at h
  simp only [Bool.and_eq_true, decide_eq_true_eq] at h
  obtain ⟨⟨⟨h1, h2⟩, h3⟩, h4⟩ := h
  refine ⟨h1, h2, h3, ?_⟩
  unfold Gr.dlBad
  rw [decide_eq_true h3, Bool.or_eq_false_iff]
  refine ⟨rfl, List.any_eq_false.2 fun x hx => ?_⟩
  have := List.all_eq_true.1 h4 x hx
  simp only [decide_eq_true_eq] at *
  omega
theorem app_ds' {m k : Nat} {xs ys : List D} (h : m = k) (e : xs = ys) : some (Cont.blk (.app 1 m [.ds xs])) = some (Cont.blk (.app 1 k [.ds ys])) := by rw [h, e]
/-- soundpost/soundpostlaw22.places -/
theorem spec18 {n : Nat} (hn : n ≤ 4096) {l : RL} (hp : Plc n l) (hl : l.length ≤ 4096) : FnSpec Try.prog 18 [iv .i64 (n : Nat), .d (nextD l)] [] (.tup ([intsD (atTo n l l.length), .v (.bool true)].map .d)) [] [] := by
  refine fnSpec_of (rs := [.tmp 4, .tmp 5]) Try.func18 rfl rfl (Nat.le_of_ble_eq_true rfl) (by simp [St.get]) fun E hk hn => ?_
  apply WPA.seq
  apply WPA.region
  · apply Trace.pu [] (.assign (.plain rfl))
    apply Trace.pu [] (.assign (.plain rfl))
    exact .nil _
  · exact keepOK_of hk hn rfl
  apply WPA.seq
  apply WPA.region
  · apply Trace.pu [] (.move (.plain rfl))
    apply Trace.makeSlice 12 [] so22 by3 zo3 rfl (by decide) (.plain rfl) (.plain rfl) ⟨by omega, by omega⟩ (by omega) (by omega) rfl rfl
    apply Trace.pu [] (.assign (.plain rfl))
    exact .nil _
  · exact keepOK_of hk hn rfl
  apply WPA.seq
  apply WPA.region
  · apply Trace.pu [] (.assign (.plain rfl))
    exact .nil _
  · exact keepOK_of hk hn rfl
  apply WPA.seq
  apply WPA.seq
  apply WPA.region
  · apply Trace.pu [] (.move (.plain rfl))
    apply Trace.pu [] (.len rfl Try.underlying28 (.plain rfl) rfl)
    apply Trace.pu [] (.move (.plain rfl))
    exact .nil _
  · exact keepOK_of hk hn rfl
  apply WPA.block
  refine WPA.loop (σ := Nat) (fun i => [(sl 0, .av (iv .i64 (n))), (sl 4, .av (.own 12 n)), (sl 6, .av (iv .i64 (total (l.take i)))), (sl 13, .av (.d (nextD l))), (sl 14, .av (iv .i64 (l.length))), (sl 15, .av (iv .i64 (i))), (bk 12, .blk (.app 1 n [.ints .i64 (atTo n l i)]))]) (fun i => i ≤ l.length) (fun i => l.length - i) 0
    (St.le_cons rfl (St.le_cons rfl (St.le_cons rfl (St.le_cons rfl (St.le_cons rfl (St.le_cons rfl (St.le_cons rfl (St.le_nil _)))))))) (Nat.zero_le _) fun i hi => ?_
  apply WPA.seq
  apply WPA.region
  · apply Trace.pu [] (.cmp (.plain rfl) (.plain rfl) rfl)
    exact .nil _
  · exact keepOK_of hk hn rfl
  apply WPA.seq
  refine WPA.cond rfl (fun hc1 => ?_) (fun hc1 => ?_)
  · have hlt : i < l.length := by simpa using hc1
    have htt := total_take hlt
    have htl := total_take_le l (i + 1)
    have htot := hp.tot
    have hne := hp.ne i hlt
    apply WPA.skip
    apply WPA.seq
    apply WPA.block
    apply WPA.seq
    apply WPA.region
    · apply Trace.pu [] (.move (.plain rfl))
      first | apply Trace.pu [] (.indexRows el28 (.plain rfl) (.plain rfl) (fun _ => ⟨by omega, by omega⟩)) | apply Trace.pu [] (.indexOwn el28 (.plain rfl) (.plain rfl) (fun _ => ⟨by omega, by omega⟩)) | apply Trace.pu [] (.indexSl el28 (.plain rfl) (.plain rfl) (fun _ => ⟨by omega, by omega⟩))
      first | apply Trace.pu [_] (.loadLoc1D ty22 (.plain rfl) rfl rfl) | apply Trace.pu [_] (.loadLoc1 ty22 (.plain rfl) rfl rfl) | apply Trace.pu [] (.loadRp1 ty22 (.plain rfl) rfl) | apply Trace.pu [_] (.loadCol1 ty22 (.plain rfl) rfl rfl rfl (fun _ => by omega))
      apply Trace.pu [] (.assign (.plain rfl))
      apply Trace.pu [] (.assign (.plain rfl))
      exact .nil _
    · exact keepOK_of hk hn rfl
    apply WPA.seq
    apply WPA.seq
    apply WPA.region
    · apply Trace.pu [] (.move (.plain rfl))
      apply Trace.pu [] (.len rfl Try.underlying22 (.plain rfl) rfl)
      apply Trace.pu [] (.move (.plain rfl))
      exact .nil _
    · exact keepOK_of hk hn rfl
    apply WPA.block
    refine WPA.loop (σ := Nat) (fun k => [(sl 0, .av (iv .i64 (n))), (sl 4, .av (.own 12 n)), (sl 6, .av (iv .i64 ((total (l.take i) + k : Nat)))), (sl 7, .av (iv .i64 (i))), (sl 8, .av (.d (rowD (l.getD i [])))), (sl 13, .av (.d (nextD l))), (sl 14, .av (iv .i64 (l.length))), (sl 15, .av (iv .i64 (i))), (sl 20, .av (.d (rowD (l.getD i [])))), (sl 21, .av (iv .i64 ((l.getD i []).length))), (sl 22, .av (iv .i64 (k))), (bk 12, .blk (.app 1 n [.ints .i64 (atRow (atTo n l i) i (l.getD i []) k)]))]) (fun k => k ≤ (l.getD i []).length) (fun k => (l.getD i []).length - k) 0
      (St.le_cons rfl (St.le_cons rfl (St.le_cons rfl (St.le_cons rfl (St.le_cons rfl (St.le_cons rfl (St.le_cons rfl (St.le_cons rfl (St.le_cons rfl (St.le_cons rfl (St.le_cons rfl (St.le_cons rfl (St.le_nil _))))))))))))) (Nat.zero_le _) fun k hk2 => ?_
    apply WPA.seq
    apply WPA.region
    · apply Trace.pu [] (.cmp (.plain rfl) (.plain rfl) rfl)
      exact .nil _
    · exact keepOK_of hk hn rfl
    apply WPA.seq
    refine WPA.cond rfl (fun hc2 => ?_) (fun hc2 => ?_)
    · have hltk : k < (l.getD i []).length := by simpa using hc2
      obtain ⟨v, hv⟩ : ∃ v, (l.getD i []).getD k 0 = v := ⟨_, rfl⟩
      obtain ⟨hv0, hvn, hz, hpr⟩ := plc_new hp hlt hltk hv
      have hal : (atRow (atTo n l i) i (l.getD i []) k).length = n := by rw [atRow_len, atTo_len]
      apply WPA.skip
      apply WPA.seq
      apply WPA.block
      apply WPA.seq
      apply WPA.region
      · apply Trace.pu [] (.move (.plain rfl))
        first | apply Trace.pu [] (.indexRows el22 (.plain rfl) (.plain rfl) (fun _ => ⟨by omega, by omega⟩)) | apply Trace.pu [] (.indexOwn el22 (.plain rfl) (.plain rfl) (fun _ => ⟨by omega, by omega⟩)) | apply Trace.pu [] (.indexSl el22 (.plain rfl) (.plain rfl) (fun _ => ⟨by omega, by omega⟩))
        apply Trace.pu [] ((Pure.loadRp1 ty3 (.plain rfl) rfl).to (y := iv .i64 v) (by exact congrArg (iv .i64) hv))
        apply Trace.pu [] (.assign (.plain rfl))
        apply Trace.pu [] (.assign (.plain rfl))
        exact .nil _
      · exact keepOK_of hk hn rfl
      apply WPA.seq
      apply WPA.seq
      rcases Nat.eq_zero_or_pos k with hk0 | hk0
      · apply WPA.region
        · apply Trace.pu [] (.move (.plain rfl))
          apply Trace.pu [] ((Pure.cmp (.plain rfl) (.plain rfl) rfl).to (y := bv false) (congrArg bv (decide_eq_false (by omega))))
          apply Trace.pu [] (.move (.plain rfl))
          apply Trace.og rfl
          apply Trace.pu [] (.move (.plain rfl))
          apply Trace.og rfl
          apply Trace.pu [] (.move (.plain rfl))
          apply Trace.og rfl
          apply Trace.pu [] ((Pure.cmp (.plain rfl) (.plain rfl) rfl).to (y := bv false) (congrArg bv (decide_eq_false (by omega))))
          apply Trace.pu [] (.pick (.plain rfl) (.plain rfl) (.plain rfl))
          apply Trace.pu [] (.move (.plain rfl))
          apply Trace.og rfl
          apply Trace.pu [] (.move (.plain rfl))
          apply Trace.og rfl
          apply Trace.pu [] (.move (.plain rfl))
          apply Trace.og rfl
          apply Trace.pu [] (.indexOwn el22 (.plain rfl) (.plain rfl) (fun _ => ⟨by omega, by omega⟩))
          apply Trace.og rfl
          apply Trace.pu [12] ((Pure.loadCol1 ty3 (.plain rfl) rfl rfl rfl (fun _ => by omega)).to (y := iv .i64 0) (by exact congrArg (iv .i64) hz))
          apply Trace.og rfl
          apply Trace.pu [] (.cmp (.plain rfl) (.plain rfl) rfl)
          apply Trace.pu [] (.pick (.plain rfl) (.plain rfl) (.plain rfl))
          apply Trace.pu [] (.move (.plain rfl))
          apply Trace.og rfl
          apply Trace.pu [] (.move (.plain rfl))
          apply Trace.og rfl
          apply Trace.pu [] ((Pure.cmp (.plain rfl) (.plain rfl) rfl).to (y := bv false) (congrArg bv (decide_eq_false (by omega))))
          apply Trace.og rfl
          apply Trace.pu [] (.move (.plain rfl))
          apply Trace.pg [] rfl (Pure.never (x := bv true) (by intro d h; cases h))
          apply Trace.pg [] rfl (Pure.never (x := bv true) (by intro d h; cases h))
          apply Trace.pg [] rfl (Pure.never (x := bv true) (by intro d h; cases h))
          apply Trace.pg [] rfl (Pure.never (x := bv true) (by intro d h; cases h))
          apply Trace.pg [] rfl (Pure.never (x := bv true) (by intro d h; cases h))
          apply Trace.pg [] rfl (Pure.never (x := bv true) (by intro d h; cases h))
          apply Trace.pg [] rfl (Pure.never (x := bv true) (by intro d h; cases h))
          apply Trace.og rfl
          apply Trace.pu [] (.pick (.plain rfl) (.gd rfl (by simp)) (.plain rfl))
          apply Trace.pu [] (.pick (.plain rfl) (.plain rfl) (.plain rfl))
          exact .nil _
        · exact keepOK_of hk hn rfl
        refine WPA.cond rfl (fun hc3 => ?_) (fun hc3 => ?_)
        · cases hc3
        · apply WPA.skip
          apply WPA.seq
          apply WPA.region
          · apply Trace.pu [] (.move (.plain rfl))
            apply Trace.pu [] (.move (.plain rfl))
            apply Trace.pu [] (.move (.plain rfl))
            apply Trace.pu [] (.arith (.plain rfl) (.plain rfl) rfl (fun _ => bd64 (by omega)))
            first | apply Trace.pu [] (.indexRows el22 (.plain rfl) (.plain rfl) (fun _ => ⟨by omega, by omega⟩)) | apply Trace.pu [] (.indexOwn el22 (.plain rfl) (.plain rfl) (fun _ => ⟨by omega, by omega⟩)) | apply Trace.pu [] (.indexSl el22 (.plain rfl) (.plain rfl) (fun _ => ⟨by omega, by omega⟩))
            first | apply Trace.storeD ty3 (.plain rfl) (.plain rfl) rfl rfl rfl (by simp [AV.oneB, single]) (Nat.le_of_ble_eq_true rfl) rfl | apply Trace.storeDA ty3 (.plain rfl) (.plain rfl) rfl rfl rfl (by simp [AV.oneB, single]) (Nat.le_of_ble_eq_true rfl) rfl | apply Trace.storeLoc ty3 (.plain rfl) (.plain rfl) rfl rfl rfl (by simp [AV.oneB, single]) (Nat.le_of_ble_eq_true rfl) rfl | apply Trace.storeRow ty3 (.plain rfl) (.plain rfl) rfl rfl rfl rfl (by decide) (by simp [AV.oneB, single]) rfl (by omega)
            exact .nil _
          · exact keepOK_of hk hn rfl
          apply WPA.region
          · apply Trace.pu [] (.move (.plain rfl))
            apply Trace.pu [] (.arith (.plain rfl) (.plain rfl) rfl (fun _ => bd64 (by omega)))
            apply Trace.pu [] (.assign (.plain rfl))
            exact .nil _
          · exact keepOK_of hk hn rfl
          apply WPA.region
          · apply Trace.pu [] (.arith (.plain rfl) (.plain rfl) rfl (fun _ => bd64 (by omega)))
            apply Trace.pu [] (.move (.plain rfl))
            exact .nil _
          · exact keepOK_of hk hn rfl
          refine ⟨k + 1, by omega, by omega, ?_⟩
          exact (St.le_cons rfl (St.le_cons rfl (St.le_cons (slI (by omega)) (St.le_cons rfl (St.le_cons rfl (St.le_cons rfl (St.le_cons rfl (St.le_cons rfl (St.le_cons rfl (St.le_cons rfl (St.le_cons (slI (by omega)) (St.le_cons (app_n rfl (by rw [atRow, hv])) (St.le_nil _)))))))))))))
      · have hpr := hpr hk0
        apply WPA.region
        · apply Trace.pu [] (.move (.plain rfl))
          apply Trace.pu [] ((Pure.cmp (.plain rfl) (.plain rfl) rfl).to (y := bv false) (congrArg bv (decide_eq_false (by omega))))
          apply Trace.pu [] (.move (.plain rfl))
          apply Trace.og rfl
          apply Trace.pu [] (.move (.plain rfl))
          apply Trace.og rfl
          apply Trace.pu [] (.move (.plain rfl))
          apply Trace.og rfl
          apply Trace.pu [] ((Pure.cmp (.plain rfl) (.plain rfl) rfl).to (y := bv false) (congrArg bv (decide_eq_false (by omega))))
          apply Trace.pu [] (.pick (.plain rfl) (.plain rfl) (.plain rfl))
          apply Trace.pu [] (.move (.plain rfl))
          apply Trace.og rfl
          apply Trace.pu [] (.move (.plain rfl))
          apply Trace.og rfl
          apply Trace.pu [] (.move (.plain rfl))
          apply Trace.og rfl
          apply Trace.pu [] (.indexOwn el22 (.plain rfl) (.plain rfl) (fun _ => ⟨by omega, by omega⟩))
          apply Trace.og rfl
          apply Trace.pu [12] ((Pure.loadCol1 ty3 (.plain rfl) rfl rfl rfl (fun _ => by omega)).to (y := iv .i64 0) (by exact congrArg (iv .i64) hz))
          apply Trace.og rfl
          apply Trace.pu [] (.cmp (.plain rfl) (.plain rfl) rfl)
          apply Trace.pu [] (.pick (.plain rfl) (.plain rfl) (.plain rfl))
          apply Trace.pu [] (.move (.plain rfl))
          apply Trace.og rfl
          apply Trace.pu [] (.move (.plain rfl))
          apply Trace.og rfl
          apply Trace.pu [] ((Pure.cmp (.plain rfl) (.plain rfl) rfl).to (y := bv true) (congrArg bv (decide_eq_true (by omega))))
          apply Trace.og rfl
          apply Trace.pu [] (.move (.plain rfl))
          apply Trace.og rfl
          apply Trace.pu [] (.move (.plain rfl))
          apply Trace.og rfl
          apply Trace.pu [] (.move (.plain rfl))
          apply Trace.og rfl
          apply Trace.pu [] (.arith (.plain rfl) (.plain rfl) rfl (fun _ => bd64 (by omega)))
          apply Trace.og rfl
          apply Trace.pu [] (.indexRows el22 (.plain rfl) (.plain rfl) (fun _ => ⟨by omega, by omega⟩))
          apply Trace.og rfl
          apply Trace.pu [] ((Pure.loadRp1 ty3 (.plain rfl) rfl).to (y := iv .i64 ((l.getD i []).getD (k - 1) 0)) (by exact congrArg (fun j => iv .i64 ((l.getD i []).getD j 0)) (by omega)))
          apply Trace.og rfl
          apply Trace.pu [] (.move (.plain rfl))
          apply Trace.og rfl
          apply Trace.pu [] ((Pure.cmp (.plain rfl) (.plain rfl) rfl).to (y := bv false) (congrArg bv (decide_eq_false (by omega))))
          apply Trace.og rfl
          apply Trace.pu [] (.pick (.plain rfl) (.plain rfl) (.plain rfl))
          apply Trace.pu [] (.pick (.plain rfl) (.plain rfl) (.plain rfl))
          exact .nil _
        · exact keepOK_of hk hn rfl
        refine WPA.cond rfl (fun hc4 => ?_) (fun hc4 => ?_)
        · cases hc4
        · apply WPA.skip
          apply WPA.seq
          apply WPA.region
          · apply Trace.pu [] (.move (.plain rfl))
            apply Trace.pu [] (.move (.plain rfl))
            apply Trace.pu [] (.move (.plain rfl))
            apply Trace.pu [] (.arith (.plain rfl) (.plain rfl) rfl (fun _ => bd64 (by omega)))
            first | apply Trace.pu [] (.indexRows el22 (.plain rfl) (.plain rfl) (fun _ => ⟨by omega, by omega⟩)) | apply Trace.pu [] (.indexOwn el22 (.plain rfl) (.plain rfl) (fun _ => ⟨by omega, by omega⟩)) | apply Trace.pu [] (.indexSl el22 (.plain rfl) (.plain rfl) (fun _ => ⟨by omega, by omega⟩))
            first | apply Trace.storeD ty3 (.plain rfl) (.plain rfl) rfl rfl rfl (by simp [AV.oneB, single]) (Nat.le_of_ble_eq_true rfl) rfl | apply Trace.storeDA ty3 (.plain rfl) (.plain rfl) rfl rfl rfl (by simp [AV.oneB, single]) (Nat.le_of_ble_eq_true rfl) rfl | apply Trace.storeLoc ty3 (.plain rfl) (.plain rfl) rfl rfl rfl (by simp [AV.oneB, single]) (Nat.le_of_ble_eq_true rfl) rfl | apply Trace.storeRow ty3 (.plain rfl) (.plain rfl) rfl rfl rfl rfl (by decide) (by simp [AV.oneB, single]) rfl (by omega)
            exact .nil _
          · exact keepOK_of hk hn rfl
          apply WPA.region
          · apply Trace.pu [] (.move (.plain rfl))
            apply Trace.pu [] (.arith (.plain rfl) (.plain rfl) rfl (fun _ => bd64 (by omega)))
            apply Trace.pu [] (.assign (.plain rfl))
            exact .nil _
          · exact keepOK_of hk hn rfl
          apply WPA.region
          · apply Trace.pu [] (.arith (.plain rfl) (.plain rfl) rfl (fun _ => bd64 (by omega)))
            apply Trace.pu [] (.move (.plain rfl))
            exact .nil _
          · exact keepOK_of hk hn rfl
          refine ⟨k + 1, by omega, by omega, ?_⟩
          exact (St.le_cons rfl (St.le_cons rfl (St.le_cons (slI (by omega)) (St.le_cons rfl (St.le_cons rfl (St.le_cons rfl (St.le_cons rfl (St.le_cons rfl (St.le_cons rfl (St.le_cons rfl (St.le_cons (slI (by omega)) (St.le_cons (app_n rfl (by rw [atRow, hv])) (St.le_nil _)))))))))))))
    · have hke : k = (l.getD i []).length := by
        have : ¬ ((k : Int) < (l.getD i []).length) := by simpa using hc2
        omega
      subst hke
      apply WPA.exit
      apply WPA.seq
      apply WPA.region
      · apply Trace.pu [] (.move (.plain rfl))
        apply Trace.pu [] (.len rfl Try.underlying22 (.plain rfl) rfl)
        apply Trace.pu [] (.cmp (.plain rfl) (.plain rfl) rfl)
        exact .nil _
      · exact keepOK_of hk hn rfl
      refine WPA.cond rfl (fun hc5 => ?_) (fun hc5 => ?_)
      · have : ((l.getD i []).length : Int) = 0 := of_decide_eq_true hc5
        omega
      · apply WPA.skip
        apply WPA.region
        · apply Trace.pu [] (.arith (.plain rfl) (.plain rfl) rfl (fun _ => bd64 (by omega)))
          apply Trace.pu [] (.move (.plain rfl))
          exact .nil _
        · exact keepOK_of hk hn rfl
        refine ⟨i + 1, by omega, by omega, ?_⟩
        exact (St.le_cons rfl (St.le_cons rfl (St.le_cons (slI (by omega)) (St.le_cons rfl (St.le_cons rfl (St.le_cons (slI (by omega)) (St.le_cons rfl (St.le_nil _))))))))
  · have hie : i = l.length := by
      have : ¬ ((i : Int) < l.length) := by simpa using hc1
      omega
    subst hie
    have htot := hp.tot
    rw [List.take_length]
    have hal := atTo_len n l l.length
    refine WPA.ghost (Ghost.freezeAs (t := 4) (l := 12) (g := fun i => [Col.at (.ints .i64 (atTo n l l.length)) i]) rfl rfl (fun i hi => rfl)) ?_
    apply WPA.exit
    apply WPA.seq
    apply WPA.region
    · apply Trace.pu [] (.move (.plain rfl))
      apply Trace.pu [] (.move (.plain rfl))
      apply Trace.pu [] (.move (.plain rfl))
      apply Trace.pu [] ((Pure.cmp (.plain rfl) (.plain rfl) rfl).to (y := bv true) (congrArg bv (decide_eq_true (by omega))))
      apply Trace.pu [] (.assign (.plain rfl))
      apply Trace.pu [] (.assign (.plain rfl))
      exact .nil _
    · exact keepOK_of hk hn rfl
    apply WPA.ret
    refine ⟨.inr rfl, ⟨_, (.cons (.tmp rfl) (.cons (.tmp rfl) .nil)), ?_⟩, by simp [St.get]⟩
    rw [show intsD (atTo n l l.length) = .rows 1 n fun i => [Col.at (.ints .i64 (atTo n l l.length)) i] from by show D.rows 1 (atTo n l l.length).length _ = _; rw [hal]; rfl]; rfl

/-- soundpost/soundpostlaw22.earlier -/
theorem earN {g : Gr} (h : g.OK)  {at_ : List Int} (ha : at_.length = g.lat.length) {i j a b : Int} (hx : a < b ∨ ∃ k, k < g.es.length ∧ g.earE (fun _ => true) at_ i j k = true) : FnSpec Try.prog 19 [g.av, .d (.v (.slice none 0 0)), .d (intsD at_), iv .i64 i, iv .i64 j, iv .i64 a, iv .i64 b] [] (bv false) [] [] := by
  have hn1 := h.n
  have hn2 := h.m
  refine fnSpec_of (rs := [.tmp 14]) Try.func19 rfl rfl (Nat.le_of_ble_eq_true rfl) (by simp [St.get]) fun E hk hn => ?_
  apply WPA.seq
  apply WPA.region
  · first | apply Trace.boxD 7 [] (.plain rfl) rfl rfl | apply Trace.box 7 [] (.plain rfl) rfl rfl rfl
    apply Trace.pu [] (.assign (.plain rfl))
    exact .nil _
  · exact keepOK_of hk hn rfl
  apply WPA.seq
  apply WPA.seq
  apply WPA.region
  · apply Trace.pu [] (.move (.plain rfl))
    apply Trace.pu [] (.move (.plain rfl))
    apply Trace.pu [] (.cmp (.plain rfl) (.plain rfl) rfl)
    exact .nil _
  · exact keepOK_of hk hn rfl
  refine WPA.cond rfl (fun hc1 => ?_) (fun hc1 => ?_)
  · apply WPA.seq
    apply WPA.region
    · apply Trace.pu [] (.assign (.plain rfl))
      exact .nil _
    · exact keepOK_of hk hn rfl
    apply WPA.ret
    refine ⟨.inr rfl, ⟨_, (.cons (.tmp rfl) .nil), ?_⟩, by simp [St.get]⟩
    rfl
  · have hab : ¬ a < b := of_decide_eq_false hc1
    obtain ⟨k0, hk0, hke⟩ : ∃ k, k < g.es.length ∧ g.earE (fun _ => true) at_ i j k = true := hx.resolve_left hab
    apply WPA.skip
    apply WPA.seq
    apply WPA.seq
    apply WPA.region
    · apply Trace.pu [] (.fieldAddr fl25_1 (.plain rfl) rfl)
      first | apply Trace.pu [_] (.loadLoc1D ty23 (.plain rfl) rfl rfl) | apply Trace.pu [_] (.loadLoc1 ty23 (.plain rfl) rfl rfl) | apply Trace.pu [] (.loadRp1 ty23 (.plain rfl) rfl) | apply Trace.pu [_] (.loadCol1 ty23 (.plain rfl) rfl rfl rfl (fun _ => by omega))
      apply Trace.pu [] (.len rfl Try.underlying23 (.plain rfl) rfl)
      apply Trace.pu [] (.move (.plain rfl))
      exact .nil _
    · exact keepOK_of hk hn rfl
    apply WPA.block
    refine WPA.loop (σ := Nat) (fun q => [(sl 1, .av (.d (.v (.slice none 0 0)))), (sl 2, .av (.d (intsD at_))), (sl 3, .av (iv .i64 (i))), (sl 4, .av (iv .i64 (j))), (sl 7, .av (.loc 7 0)), (sl 21, .av (.d (edgesD g.es))), (sl 22, .av (iv .i64 (g.es.length))), (sl 23, .av (iv .i64 (q))), (bk 7, .blk (.data g.ds))]) (fun q => q ≤ g.es.length ∧ ∀ p, p < q → g.earE (fun _ => true) at_ i j p = false) (fun q => g.es.length - q) 0
      (St.le_cons rfl (St.le_cons rfl (St.le_cons rfl (St.le_cons rfl (St.le_cons rfl (St.le_cons rfl (St.le_cons rfl (St.le_cons rfl (St.le_cons rfl (St.le_nil _)))))))))) ⟨Nat.zero_le _, fun p hp => by omega⟩ fun q hq => ?_
    apply WPA.seq
    apply WPA.region
    · apply Trace.pu [] (.cmp (.plain rfl) (.plain rfl) rfl)
      exact .nil _
    · exact keepOK_of hk hn rfl
    apply WPA.seq
    refine WPA.cond rfl (fun hc2 => ?_) (fun hc2 => ?_)
    · have hlt : q < g.es.length := by simpa using hc2
      obtain ⟨e, he⟩ : ∃ e, g.es.getD q default = e := ⟨_, rfl⟩
      obtain ⟨hem, hef, het, hef0, het0⟩ := he ▸ Gr.edge h hlt
      have hee : g.earE (fun _ => true) at_ i j q = (bif (bif (bif true then decide (at_.getD e.t.toNat 0 = j) else false) then decide (i ≤ at_.getD e.f.toNat 0) else false) then decide (at_.getD e.f.toNat 0 < j) else false) := by rw [← he]; rfl
      apply WPA.skip
      apply WPA.seq
      apply WPA.block
      apply WPA.seq
      apply WPA.region
      · apply Trace.pu [] (.move (.plain rfl))
        apply Trace.pu [] ((Pure.indexRows el23 (.plain rfl) (.plain rfl) (fun _ => ⟨by omega, by omega⟩)).to (y := .rp e.ds) (by show AV.rp (g.es.getD q default).ds = _; rw [he]))
        first | apply Trace.pu [_] (.loadAllD ty43 (.plain rfl) rfl (by simp)) | apply Trace.pu [_] (.loadLocD ty43 (.plain rfl) rfl (fun _ => by simp)) | apply Trace.pu [_] (.loadLoc ty43 (.plain rfl) rfl (fun _ => Nat.le_of_ble_eq_true rfl)) | apply Trace.pu [] (.loadRp ty43 (.plain rfl) (fun _ => by decide)) | apply Trace.pu [] (.loadRp ty43 (.plain rfl) (fun _ => Nat.le_of_ble_eq_true rfl)) | apply Trace.pu [_] (.loadCol ty43 (.plain rfl) rfl rfl (fun _ => by decide) (fun _ => by omega)) | apply Trace.pu [_] (.loadArr ty43 (.plain rfl) rfl)
        apply Trace.alloc 16 [] (.data _) zo43 (cellsAs_data _) rfl
        apply Trace.pu [] (.assign (.plain rfl))
        first | apply Trace.storeD ty43 (.plain rfl) (.plain rfl) rfl rfl (by simp) (by simp [AV.oneB, single]) (by simp) (spliceL_all (by simp)) | apply Trace.storeD ty43 (.plain rfl) (.plain rfl) rfl rfl (by simp) (by simp [AV.oneB, single]) (by simp) rfl | apply Trace.storeDA ty43 (.plain rfl) (.plain rfl) rfl rfl (by simp) (by simp [AV.oneB, single]) (by simp) rfl | apply Trace.storeLoc ty43 (.plain rfl) (.plain rfl) rfl rfl (by simp) (by simp [AV.oneB, single]) (by simp) rfl | apply Trace.storeRow ty43 (.plain rfl) (.plain rfl) rfl rfl rfl rfl (by decide) (by simp [AV.oneB, single]) rfl (by omega)
        exact .nil _
      · exact keepOK_of hk hn rfl
      apply WPA.seq
      apply WPA.region
      · apply Trace.pu [] (.move (.plain rfl))
        apply Trace.pu [] ((Pure.eqNilV Try.underlying22 (.plain rfl) (.plain rfl)).to (y := bv true) rfl)
        apply Trace.pu [] (.move (.plain rfl))
        apply Trace.pg [] rfl (Pure.never (x := bv true) (by intro d h; cases h))
        apply Trace.pg [] rfl (Pure.never (x := bv true) (by intro d h; cases h))
        apply Trace.pg [] rfl (Pure.never (x := bv true) (by intro d h; cases h))
        apply Trace.pg [] rfl (Pure.never (x := bv true) (by intro d h; cases h))
        apply Trace.pg [] rfl (Pure.never (x := bv true) (by intro d h; cases h))
        apply Trace.pu [] (.pick (.plain rfl) (.plain rfl) (.gd rfl (by simp)))
        apply Trace.pu [] (.move (.plain rfl))
        apply Trace.pg [] rfl (.move (.plain rfl))
        apply Trace.pg [] rfl (.fieldAddr fl43_1 (.plain rfl) rfl)
        first | apply Trace.pg [_] rfl (.loadLoc1D ty3 (.gd rfl (fun h => h)) rfl rfl) | apply Trace.pg [_] rfl (.loadLoc1 ty3 (.gd rfl (fun h => h)) rfl rfl) | apply Trace.pg [] rfl (.loadRp1 ty3 (.gd rfl (fun h => h)) rfl) | apply Trace.pg [_] rfl (.loadCol1 ty3 (.gd rfl (fun h => h)) rfl rfl rfl (fun _ => by omega))
        first | apply Trace.pg [] rfl (.indexRows el22 (.gd rfl (fun h => h)) (.gd rfl (fun h => h)) (fun _ => ⟨by omega, by omega⟩)) | apply Trace.pg [] rfl (.indexOwn el22 (.gd rfl (fun h => h)) (.gd rfl (fun h => h)) (fun _ => ⟨by omega, by omega⟩)) | apply Trace.pg [] rfl (.indexSl el22 (.gd rfl (fun h => h)) (.gd rfl (fun h => h)) (fun _ => ⟨by omega, by omega⟩))
        first | apply Trace.pg [_] rfl (.loadLoc1D ty3 (.gd rfl (fun h => h)) rfl rfl) | apply Trace.pg [_] rfl (.loadLoc1 ty3 (.gd rfl (fun h => h)) rfl rfl) | apply Trace.pg [] rfl (.loadRp1 ty3 (.gd rfl (fun h => h)) rfl) | apply Trace.pg [_] rfl (.loadCol1 ty3 (.gd rfl (fun h => h)) rfl rfl rfl (fun _ => by omega))
        apply Trace.pg [] rfl (.move (.plain rfl))
        apply Trace.pg [] rfl (.cmp (.gd rfl (fun h => h)) (.gd rfl (fun h => h)) rfl)
        apply Trace.pu [] (.pick (.plain rfl) (.gd rfl (by simp)) (.plain rfl))
        apply Trace.pu [] (.move (.plain rfl))
        apply Trace.pg [] rfl (.move (.plain rfl))
        apply Trace.pg [] rfl (.fieldAddr fl43_0 (.plain rfl) rfl)
        first | apply Trace.pg [_] rfl (.loadLoc1D ty3 (.gd rfl (fun h => h)) rfl rfl) | apply Trace.pg [_] rfl (.loadLoc1 ty3 (.gd rfl (fun h => h)) rfl rfl) | apply Trace.pg [] rfl (.loadRp1 ty3 (.gd rfl (fun h => h)) rfl) | apply Trace.pg [_] rfl (.loadCol1 ty3 (.gd rfl (fun h => h)) rfl rfl rfl (fun _ => by omega))
        first | apply Trace.pg [] rfl (.indexRows el22 (.gd rfl (fun h => h)) (.gd rfl (fun h => h)) (fun _ => ⟨by omega, by omega⟩)) | apply Trace.pg [] rfl (.indexOwn el22 (.gd rfl (fun h => h)) (.gd rfl (fun h => h)) (fun _ => ⟨by omega, by omega⟩)) | apply Trace.pg [] rfl (.indexSl el22 (.gd rfl (fun h => h)) (.gd rfl (fun h => h)) (fun _ => ⟨by omega, by omega⟩))
        first | apply Trace.pg [_] rfl (.loadLoc1D ty3 (.gd rfl (fun h => h)) rfl rfl) | apply Trace.pg [_] rfl (.loadLoc1 ty3 (.gd rfl (fun h => h)) rfl rfl) | apply Trace.pg [] rfl (.loadRp1 ty3 (.gd rfl (fun h => h)) rfl) | apply Trace.pg [_] rfl (.loadCol1 ty3 (.gd rfl (fun h => h)) rfl rfl rfl (fun _ => by omega))
        apply Trace.pg [] rfl (.move (.plain rfl))
        apply Trace.pg [] rfl (.cmp (.gd rfl (fun h => h)) (.gd rfl (fun h => h)) rfl)
        apply Trace.pu [] (.pick (.plain rfl) (.gd rfl (by simp)) (.plain rfl))
        apply Trace.pu [] (.move (.plain rfl))
        apply Trace.pg [] rfl (.move (.plain rfl))
        apply Trace.pg [] rfl (.fieldAddr fl43_0 (.plain rfl) rfl)
        first | apply Trace.pg [_] rfl (.loadLoc1D ty3 (.gd rfl (fun h => h)) rfl rfl) | apply Trace.pg [_] rfl (.loadLoc1 ty3 (.gd rfl (fun h => h)) rfl rfl) | apply Trace.pg [] rfl (.loadRp1 ty3 (.gd rfl (fun h => h)) rfl) | apply Trace.pg [_] rfl (.loadCol1 ty3 (.gd rfl (fun h => h)) rfl rfl rfl (fun _ => by omega))
        first | apply Trace.pg [] rfl (.indexRows el22 (.gd rfl (fun h => h)) (.gd rfl (fun h => h)) (fun _ => ⟨by omega, by omega⟩)) | apply Trace.pg [] rfl (.indexOwn el22 (.gd rfl (fun h => h)) (.gd rfl (fun h => h)) (fun _ => ⟨by omega, by omega⟩)) | apply Trace.pg [] rfl (.indexSl el22 (.gd rfl (fun h => h)) (.gd rfl (fun h => h)) (fun _ => ⟨by omega, by omega⟩))
        first | apply Trace.pg [_] rfl (.loadLoc1D ty3 (.gd rfl (fun h => h)) rfl rfl) | apply Trace.pg [_] rfl (.loadLoc1 ty3 (.gd rfl (fun h => h)) rfl rfl) | apply Trace.pg [] rfl (.loadRp1 ty3 (.gd rfl (fun h => h)) rfl) | apply Trace.pg [_] rfl (.loadCol1 ty3 (.gd rfl (fun h => h)) rfl rfl rfl (fun _ => by omega))
        apply Trace.pg [] rfl (.move (.plain rfl))
        apply Trace.pg [] rfl (.cmp (.gd rfl (fun h => h)) (.gd rfl (fun h => h)) rfl)
        apply Trace.pu [] (.pick (.plain rfl) (.gd rfl (by simp)) (.plain rfl))
        exact .nil _
      · exact keepOK_of hk hn rfl
      refine WPA.cond rfl (fun hc3 => ?_) (fun hc3 => ?_)
      · apply WPA.seq
        apply WPA.region
        · apply Trace.pu [] (.assign (.plain rfl))
          exact .nil _
        · exact keepOK_of hk hn rfl
        apply WPA.ret
        refine ⟨.inr rfl, ⟨_, (.cons (.tmp rfl) .nil), ?_⟩, by simp [St.get]⟩
        rfl
      · apply WPA.skip
        apply WPA.region
        · apply Trace.pu [] (.arith (.plain rfl) (.plain rfl) rfl (fun _ => bd64 (by omega)))
          apply Trace.pu [] (.move (.plain rfl))
          exact .nil _
        · exact keepOK_of hk hn rfl
        have hxe : g.earE (fun _ => true) at_ i j q = false := by rw [hee]; exact hc3
        refine ⟨q + 1, ⟨by omega, fun p hp => by
          by_cases e : p = q
          · rw [e]; exact hxe
          · exact hq.2 p (by omega)⟩, by omega, ?_⟩
        exact (St.le_cons rfl (St.le_cons rfl (St.le_cons rfl (St.le_cons rfl (St.le_cons rfl (St.le_cons rfl (St.le_cons rfl (St.le_cons (slI (by omega)) (St.le_cons rfl (St.le_nil _))))))))))
    · apply WPA.exit
      apply WPA.seq
      apply WPA.region
      · apply Trace.pu [] (.assign (.plain rfl))
        exact .nil _
      · exact keepOK_of hk hn rfl
      apply WPA.ret
      refine ⟨.inr rfl, ⟨_, (.cons (.tmp rfl) .nil), ?_⟩, by simp [St.get]⟩
      have := hq.2 k0 (by
        have : ¬ ((q : Int) < g.es.length) := by simpa using hc2
        omega)
      rw [hke] at this; cases this

/-- soundpost/soundpostlaw22.earlier -/
theorem earD {g : Gr} (h : g.OK) {dl : List Int} (hdl : dl.length = g.es.length) {at_ : List Int} (ha : at_.length = g.lat.length) {i j a b : Int} (hx : a < b ∨ ∃ k, k < g.es.length ∧ g.earE (fun k => decide (dl.getD k 0 = 0)) at_ i j k = true) : FnSpec Try.prog 19 [g.av, .d (intsD dl), .d (intsD at_), iv .i64 i, iv .i64 j, iv .i64 a, iv .i64 b] [] (bv false) [] [] := by
  have hn1 := h.n
  have hn2 := h.m
  refine fnSpec_of (rs := [.tmp 14]) Try.func19 rfl rfl (Nat.le_of_ble_eq_true rfl) (by simp [St.get]) fun E hk hn => ?_
  apply WPA.seq
  apply WPA.region
  · first | apply Trace.boxD 7 [] (.plain rfl) rfl rfl | apply Trace.box 7 [] (.plain rfl) rfl rfl rfl
    apply Trace.pu [] (.assign (.plain rfl))
    exact .nil _
  · exact keepOK_of hk hn rfl
  apply WPA.seq
  apply WPA.seq
  apply WPA.region
  · apply Trace.pu [] (.move (.plain rfl))
    apply Trace.pu [] (.move (.plain rfl))
    apply Trace.pu [] (.cmp (.plain rfl) (.plain rfl) rfl)
    exact .nil _
  · exact keepOK_of hk hn rfl
  refine WPA.cond rfl (fun hc1 => ?_) (fun hc1 => ?_)
  · apply WPA.seq
    apply WPA.region
    · apply Trace.pu [] (.assign (.plain rfl))
      exact .nil _
    · exact keepOK_of hk hn rfl
    apply WPA.ret
    refine ⟨.inr rfl, ⟨_, (.cons (.tmp rfl) .nil), ?_⟩, by simp [St.get]⟩
    rfl
  · have hab : ¬ a < b := of_decide_eq_false hc1
    obtain ⟨k0, hk0, hke⟩ : ∃ k, k < g.es.length ∧ g.earE (fun k => decide (dl.getD k 0 = 0)) at_ i j k = true := hx.resolve_left hab
    apply WPA.skip
    apply WPA.seq
    apply WPA.seq
    apply WPA.region
    · apply Trace.pu [] (.fieldAddr fl25_1 (.plain rfl) rfl)
      first | apply Trace.pu [_] (.loadLoc1D ty23 (.plain rfl) rfl rfl) | apply Trace.pu [_] (.loadLoc1 ty23 (.plain rfl) rfl rfl) | apply Trace.pu [] (.loadRp1 ty23 (.plain rfl) rfl) | apply Trace.pu [_] (.loadCol1 ty23 (.plain rfl) rfl rfl rfl (fun _ => by omega))
      apply Trace.pu [] (.len rfl Try.underlying23 (.plain rfl) rfl)
      apply Trace.pu [] (.move (.plain rfl))
      exact .nil _
    · exact keepOK_of hk hn rfl
    apply WPA.block
    refine WPA.loop (σ := Nat) (fun q => [(sl 1, .av (.d (intsD dl))), (sl 2, .av (.d (intsD at_))), (sl 3, .av (iv .i64 (i))), (sl 4, .av (iv .i64 (j))), (sl 7, .av (.loc 7 0)), (sl 21, .av (.d (edgesD g.es))), (sl 22, .av (iv .i64 (g.es.length))), (sl 23, .av (iv .i64 (q))), (bk 7, .blk (.data g.ds))]) (fun q => q ≤ g.es.length ∧ ∀ p, p < q → g.earE (fun k => decide (dl.getD k 0 = 0)) at_ i j p = false) (fun q => g.es.length - q) 0
      (St.le_cons rfl (St.le_cons rfl (St.le_cons rfl (St.le_cons rfl (St.le_cons rfl (St.le_cons rfl (St.le_cons rfl (St.le_cons rfl (St.le_cons rfl (St.le_nil _)))))))))) ⟨Nat.zero_le _, fun p hp => by omega⟩ fun q hq => ?_
    apply WPA.seq
    apply WPA.region
    · apply Trace.pu [] (.cmp (.plain rfl) (.plain rfl) rfl)
      exact .nil _
    · exact keepOK_of hk hn rfl
    apply WPA.seq
    refine WPA.cond rfl (fun hc2 => ?_) (fun hc2 => ?_)
    · have hlt : q < g.es.length := by simpa using hc2
      obtain ⟨e, he⟩ : ∃ e, g.es.getD q default = e := ⟨_, rfl⟩
      obtain ⟨hem, hef, het, hef0, het0⟩ := he ▸ Gr.edge h hlt
      have hee : g.earE (fun k => decide (dl.getD k 0 = 0)) at_ i j q = (bif (bif (bif decide (dl.getD q 0 = 0) then decide (at_.getD e.t.toNat 0 = j) else false) then decide (i ≤ at_.getD e.f.toNat 0) else false) then decide (at_.getD e.f.toNat 0 < j) else false) := by rw [← he]; rfl
      apply WPA.skip
      apply WPA.seq
      apply WPA.block
      apply WPA.seq
      apply WPA.region
      · apply Trace.pu [] (.move (.plain rfl))
        apply Trace.pu [] ((Pure.indexRows el23 (.plain rfl) (.plain rfl) (fun _ => ⟨by omega, by omega⟩)).to (y := .rp e.ds) (by show AV.rp (g.es.getD q default).ds = _; rw [he]))
        first | apply Trace.pu [_] (.loadAllD ty43 (.plain rfl) rfl (by simp)) | apply Trace.pu [_] (.loadLocD ty43 (.plain rfl) rfl (fun _ => by simp)) | apply Trace.pu [_] (.loadLoc ty43 (.plain rfl) rfl (fun _ => Nat.le_of_ble_eq_true rfl)) | apply Trace.pu [] (.loadRp ty43 (.plain rfl) (fun _ => by decide)) | apply Trace.pu [] (.loadRp ty43 (.plain rfl) (fun _ => Nat.le_of_ble_eq_true rfl)) | apply Trace.pu [_] (.loadCol ty43 (.plain rfl) rfl rfl (fun _ => by decide) (fun _ => by omega)) | apply Trace.pu [_] (.loadArr ty43 (.plain rfl) rfl)
        apply Trace.alloc 16 [] (.data _) zo43 (cellsAs_data _) rfl
        apply Trace.pu [] (.assign (.plain rfl))
        first | apply Trace.storeD ty43 (.plain rfl) (.plain rfl) rfl rfl (by simp) (by simp [AV.oneB, single]) (by simp) (spliceL_all (by simp)) | apply Trace.storeD ty43 (.plain rfl) (.plain rfl) rfl rfl (by simp) (by simp [AV.oneB, single]) (by simp) rfl | apply Trace.storeDA ty43 (.plain rfl) (.plain rfl) rfl rfl (by simp) (by simp [AV.oneB, single]) (by simp) rfl | apply Trace.storeLoc ty43 (.plain rfl) (.plain rfl) rfl rfl (by simp) (by simp [AV.oneB, single]) (by simp) rfl | apply Trace.storeRow ty43 (.plain rfl) (.plain rfl) rfl rfl rfl rfl (by decide) (by simp [AV.oneB, single]) rfl (by omega)
        exact .nil _
      · exact keepOK_of hk hn rfl
      apply WPA.seq
      apply WPA.region
      · apply Trace.pu [] (.move (.plain rfl))
        apply Trace.pu [] (.eqNilRows (by omega) Try.underlying22 (.plain rfl) (.plain rfl))
        apply Trace.pu [] (.move (.plain rfl))
        apply Trace.pg [] rfl (.move (.plain rfl))
        apply Trace.pg [] rfl (.move (.plain rfl))
        first | apply Trace.pg [] rfl (.indexRows el22 (.gd rfl (fun h => h)) (.gd rfl (fun h => h)) (fun _ => ⟨by omega, by omega⟩)) | apply Trace.pg [] rfl (.indexOwn el22 (.gd rfl (fun h => h)) (.gd rfl (fun h => h)) (fun _ => ⟨by omega, by omega⟩)) | apply Trace.pg [] rfl (.indexSl el22 (.gd rfl (fun h => h)) (.gd rfl (fun h => h)) (fun _ => ⟨by omega, by omega⟩))
        first | apply Trace.pg [_] rfl (.loadLoc1D ty3 (.gd rfl (fun h => h)) rfl rfl) | apply Trace.pg [_] rfl (.loadLoc1 ty3 (.gd rfl (fun h => h)) rfl rfl) | apply Trace.pg [] rfl (.loadRp1 ty3 (.gd rfl (fun h => h)) rfl) | apply Trace.pg [_] rfl (.loadCol1 ty3 (.gd rfl (fun h => h)) rfl rfl rfl (fun _ => by omega))
        apply Trace.pg [] rfl (.cmp (.gd rfl (fun h => h)) (.plain rfl) rfl)
        apply Trace.pu [] (.pick (.plain rfl) (.plain rfl) (.gd rfl (by simp)))
        apply Trace.pu [] (.move (.plain rfl))
        apply Trace.pg [] rfl (.move (.plain rfl))
        apply Trace.pg [] rfl (.fieldAddr fl43_1 (.plain rfl) rfl)
        first | apply Trace.pg [_] rfl (.loadLoc1D ty3 (.gd rfl (fun h => h)) rfl rfl) | apply Trace.pg [_] rfl (.loadLoc1 ty3 (.gd rfl (fun h => h)) rfl rfl) | apply Trace.pg [] rfl (.loadRp1 ty3 (.gd rfl (fun h => h)) rfl) | apply Trace.pg [_] rfl (.loadCol1 ty3 (.gd rfl (fun h => h)) rfl rfl rfl (fun _ => by omega))
        first | apply Trace.pg [] rfl (.indexRows el22 (.gd rfl (fun h => h)) (.gd rfl (fun h => h)) (fun _ => ⟨by omega, by omega⟩)) | apply Trace.pg [] rfl (.indexOwn el22 (.gd rfl (fun h => h)) (.gd rfl (fun h => h)) (fun _ => ⟨by omega, by omega⟩)) | apply Trace.pg [] rfl (.indexSl el22 (.gd rfl (fun h => h)) (.gd rfl (fun h => h)) (fun _ => ⟨by omega, by omega⟩))
        first | apply Trace.pg [_] rfl (.loadLoc1D ty3 (.gd rfl (fun h => h)) rfl rfl) | apply Trace.pg [_] rfl (.loadLoc1 ty3 (.gd rfl (fun h => h)) rfl rfl) | apply Trace.pg [] rfl (.loadRp1 ty3 (.gd rfl (fun h => h)) rfl) | apply Trace.pg [_] rfl (.loadCol1 ty3 (.gd rfl (fun h => h)) rfl rfl rfl (fun _ => by omega))
        apply Trace.pg [] rfl (.move (.plain rfl))
        apply Trace.pg [] rfl (.cmp (.gd rfl (fun h => h)) (.gd rfl (fun h => h)) rfl)
        apply Trace.pu [] (.pick (.plain rfl) (.gd rfl (by simp)) (.plain rfl))
        apply Trace.pu [] (.move (.plain rfl))
        apply Trace.pg [] rfl (.move (.plain rfl))
        apply Trace.pg [] rfl (.fieldAddr fl43_0 (.plain rfl) rfl)
        first | apply Trace.pg [_] rfl (.loadLoc1D ty3 (.gd rfl (fun h => h)) rfl rfl) | apply Trace.pg [_] rfl (.loadLoc1 ty3 (.gd rfl (fun h => h)) rfl rfl) | apply Trace.pg [] rfl (.loadRp1 ty3 (.gd rfl (fun h => h)) rfl) | apply Trace.pg [_] rfl (.loadCol1 ty3 (.gd rfl (fun h => h)) rfl rfl rfl (fun _ => by omega))
        first | apply Trace.pg [] rfl (.indexRows el22 (.gd rfl (fun h => h)) (.gd rfl (fun h => h)) (fun _ => ⟨by omega, by omega⟩)) | apply Trace.pg [] rfl (.indexOwn el22 (.gd rfl (fun h => h)) (.gd rfl (fun h => h)) (fun _ => ⟨by omega, by omega⟩)) | apply Trace.pg [] rfl (.indexSl el22 (.gd rfl (fun h => h)) (.gd rfl (fun h => h)) (fun _ => ⟨by omega, by omega⟩))
        first | apply Trace.pg [_] rfl (.loadLoc1D ty3 (.gd rfl (fun h => h)) rfl rfl) | apply Trace.pg [_] rfl (.loadLoc1 ty3 (.gd rfl (fun h => h)) rfl rfl) | apply Trace.pg [] rfl (.loadRp1 ty3 (.gd rfl (fun h => h)) rfl) | apply Trace.pg [_] rfl (.loadCol1 ty3 (.gd rfl (fun h => h)) rfl rfl rfl (fun _ => by omega))
        apply Trace.pg [] rfl (.move (.plain rfl))
        apply Trace.pg [] rfl (.cmp (.gd rfl (fun h => h)) (.gd rfl (fun h => h)) rfl)
        apply Trace.pu [] (.pick (.plain rfl) (.gd rfl (by simp)) (.plain rfl))
        apply Trace.pu [] (.move (.plain rfl))
        apply Trace.pg [] rfl (.move (.plain rfl))
        apply Trace.pg [] rfl (.fieldAddr fl43_0 (.plain rfl) rfl)
        first | apply Trace.pg [_] rfl (.loadLoc1D ty3 (.gd rfl (fun h => h)) rfl rfl) | apply Trace.pg [_] rfl (.loadLoc1 ty3 (.gd rfl (fun h => h)) rfl rfl) | apply Trace.pg [] rfl (.loadRp1 ty3 (.gd rfl (fun h => h)) rfl) | apply Trace.pg [_] rfl (.loadCol1 ty3 (.gd rfl (fun h => h)) rfl rfl rfl (fun _ => by omega))
        first | apply Trace.pg [] rfl (.indexRows el22 (.gd rfl (fun h => h)) (.gd rfl (fun h => h)) (fun _ => ⟨by omega, by omega⟩)) | apply Trace.pg [] rfl (.indexOwn el22 (.gd rfl (fun h => h)) (.gd rfl (fun h => h)) (fun _ => ⟨by omega, by omega⟩)) | apply Trace.pg [] rfl (.indexSl el22 (.gd rfl (fun h => h)) (.gd rfl (fun h => h)) (fun _ => ⟨by omega, by omega⟩))
        first | apply Trace.pg [_] rfl (.loadLoc1D ty3 (.gd rfl (fun h => h)) rfl rfl) | apply Trace.pg [_] rfl (.loadLoc1 ty3 (.gd rfl (fun h => h)) rfl rfl) | apply Trace.pg [] rfl (.loadRp1 ty3 (.gd rfl (fun h => h)) rfl) | apply Trace.pg [_] rfl (.loadCol1 ty3 (.gd rfl (fun h => h)) rfl rfl rfl (fun _ => by omega))
        apply Trace.pg [] rfl (.move (.plain rfl))
        apply Trace.pg [] rfl (.cmp (.gd rfl (fun h => h)) (.gd rfl (fun h => h)) rfl)
        apply Trace.pu [] (.pick (.plain rfl) (.gd rfl (by simp)) (.plain rfl))
        exact .nil _
      · exact keepOK_of hk hn rfl
      refine WPA.cond rfl (fun hc3 => ?_) (fun hc3 => ?_)
      · apply WPA.seq
        apply WPA.region
        · apply Trace.pu [] (.assign (.plain rfl))
          exact .nil _
        · exact keepOK_of hk hn rfl
        apply WPA.ret
        refine ⟨.inr rfl, ⟨_, (.cons (.tmp rfl) .nil), ?_⟩, by simp [St.get]⟩
        rfl
      · apply WPA.skip
        apply WPA.region
        · apply Trace.pu [] (.arith (.plain rfl) (.plain rfl) rfl (fun _ => bd64 (by omega)))
          apply Trace.pu [] (.move (.plain rfl))
          exact .nil _
        · exact keepOK_of hk hn rfl
        have hxe : g.earE (fun k => decide (dl.getD k 0 = 0)) at_ i j q = false := by rw [hee]; exact hc3
        refine ⟨q + 1, ⟨by omega, fun p hp => by
          by_cases e : p = q
          · rw [e]; exact hxe
          · exact hq.2 p (by omega)⟩, by omega, ?_⟩
        exact (St.le_cons rfl (St.le_cons rfl (St.le_cons rfl (St.le_cons rfl (St.le_cons rfl (St.le_cons rfl (St.le_cons rfl (St.le_cons (slI (by omega)) (St.le_cons rfl (St.le_nil _))))))))))
    · apply WPA.exit
      apply WPA.seq
      apply WPA.region
      · apply Trace.pu [] (.assign (.plain rfl))
        exact .nil _
      · exact keepOK_of hk hn rfl
      apply WPA.ret
      refine ⟨.inr rfl, ⟨_, (.cons (.tmp rfl) .nil), ?_⟩, by simp [St.get]⟩
      have := hq.2 k0 (by
        have : ¬ ((q : Int) < g.es.length) := by simpa using hc2
        omega)
      rw [hke] at this; cases this

/-- soundpost/soundpostlaw22.short -/
theorem spec20 (g : Gr) (hz : g.Sz) (dl : List Int) (hd : dl.length ≤ 4611686018427387904) : FnSpec Try.prog 20 [g.av, .d (intsD dl)] [] (bv (g.short22 dl)) [] [] := by
  have hn1 := hz.n
  have hn2 := hz.m
  refine fnSpec_of (rs := [.tmp 4]) Try.func20 rfl rfl (Nat.le_of_ble_eq_true rfl) (by simp [St.get]) fun E hk hn => ?_
  apply WPA.seq
  apply WPA.region
  · first | apply Trace.boxD 2 [] (.plain rfl) rfl rfl | apply Trace.box 2 [] (.plain rfl) rfl rfl rfl
    apply Trace.pu [] (.assign (.plain rfl))
    exact .nil _
  · exact keepOK_of hk hn rfl
  apply WPA.seq
  apply WPA.seq
  apply WPA.region
  · first | apply Trace.pu [_] (.loadAllD ty25 (.plain rfl) rfl (by simp)) | apply Trace.pu [_] (.loadLocD ty25 (.plain rfl) rfl (fun _ => by simp)) | apply Trace.pu [_] (.loadLoc ty25 (.plain rfl) rfl (fun _ => Nat.le_of_ble_eq_true rfl)) | apply Trace.pu [] (.loadRp ty25 (.plain rfl) (fun _ => by decide)) | apply Trace.pu [] (.loadRp ty25 (.plain rfl) (fun _ => Nat.le_of_ble_eq_true rfl)) | apply Trace.pu [_] (.loadCol ty25 (.plain rfl) rfl rfl (fun _ => by decide) (fun _ => by omega)) | apply Trace.pu [_] (.loadArr ty25 (.plain rfl) rfl)
    apply Trace.cu (callArgs0 (.cons (.plain rfl) .nil)) (spec10 g hz) en10
    apply Trace.pu [] (.not (.plain rfl))
    apply Trace.pu [] (.move (.plain rfl))
    first | apply Trace.pg [_] rfl (.loadAllD ty25 (.plain rfl) rfl (by simp)) | apply Trace.pg [_] rfl (.loadLocD ty25 (.plain rfl) rfl (fun _ => by simp)) | apply Trace.pg [_] rfl (.loadLoc ty25 (.plain rfl) rfl (fun _ => Nat.le_of_ble_eq_true rfl)) | apply Trace.pg [] rfl (.loadRp ty25 (.plain rfl) (fun _ => by decide)) | apply Trace.pg [] rfl (.loadRp ty25 (.plain rfl) (fun _ => Nat.le_of_ble_eq_true rfl)) | apply Trace.pg [_] rfl (.loadCol ty25 (.plain rfl) rfl rfl (fun _ => by decide) (fun _ => by omega)) | apply Trace.pg [_] rfl (.loadArr ty25 (.plain rfl) rfl)
    apply Trace.cg rfl (callArgs0 (.cons (.gd rfl (fun h => h)) .nil)) (fun _ => spec17 g hz) en17
    apply Trace.pg [] rfl (.cmp (.gd rfl (fun h => h)) (.plain rfl) rfl)
    apply Trace.pu [] (.pick (.plain rfl) (.plain rfl) (.gd rfl (by simp)))
    apply Trace.pu [] (.move (.plain rfl))
    apply Trace.pg [] rfl (.move (.plain rfl))
    apply Trace.pg [] rfl (.len rfl Try.underlying22 (.gd rfl (fun h => h)) rfl)
    apply Trace.pg [] rfl (.fieldAddr fl25_1 (.plain rfl) rfl)
    first | apply Trace.pg [_] rfl (.loadLoc1D ty23 (.gd rfl (fun h => h)) rfl rfl) | apply Trace.pg [_] rfl (.loadLoc1 ty23 (.gd rfl (fun h => h)) rfl rfl) | apply Trace.pg [] rfl (.loadRp1 ty23 (.gd rfl (fun h => h)) rfl) | apply Trace.pg [_] rfl (.loadCol1 ty23 (.gd rfl (fun h => h)) rfl rfl rfl (fun _ => by omega))
    apply Trace.pg [] rfl (.len rfl Try.underlying23 (.gd rfl (fun h => h)) rfl)
    apply Trace.pg [] rfl (.cmp (.gd rfl (fun h => h)) (.gd rfl (fun h => h)) rfl)
    apply Trace.pu [] (.pick (.plain rfl) (.plain rfl) (.gd rfl (by simp)))
    exact .nil _
  · exact keepOK_of hk hn rfl
  refine WPA.cond rfl (fun hc1 => ?_) (fun hc1 => ?_)
  · have hS : g.short22 dl = false := by
      have h9 : (bif (bif !g.few22 then true else !decide (g.check = 0)) then true else !decide ((dl.length : Int) = g.es.length)) = true := hc1
      have e : decide ((dl.length : Int) = g.es.length) = decide (dl.length = g.es.length) := decide_eq_decide.2 ⟨fun h => by omega, fun h => by omega⟩
      rw [bif_or', bif_or', e] at h9
      unfold Gr.short22
      generalize g.few22 = a at h9 ⊢
      generalize decide (g.check = 0) = b at h9 ⊢
      generalize decide (dl.length = g.es.length) = c at h9 ⊢
      clear hc1
      cases a <;> cases b <;> cases c <;> simp_all
    apply WPA.seq
    apply WPA.region
    · apply Trace.pu [] (.assign (.plain rfl))
      exact .nil _
    · exact keepOK_of hk hn rfl
    apply WPA.ret
    refine ⟨.inr rfl, ⟨_, (.cons (.tmp rfl) .nil), ?_⟩, by simp [St.get]⟩
    rw [hS]; rfl
  · have hS : (g.few22 && decide (g.check = 0) && decide (dl.length = g.es.length)) = true := by
      have h9 : (bif (bif !g.few22 then true else !decide (g.check = 0)) then true else !decide ((dl.length : Int) = g.es.length)) = false := hc1
      have e : decide ((dl.length : Int) = g.es.length) = decide (dl.length = g.es.length) := decide_eq_decide.2 ⟨fun h => by omega, fun h => by omega⟩
      rw [bif_or', bif_or', e] at h9
      generalize g.few22 = a at h9 ⊢
      generalize decide (g.check = 0) = b at h9 ⊢
      generalize decide (dl.length = g.es.length) = c at h9 ⊢
      clear hc1
      cases a <;> cases b <;> cases c <;> simp_all
    apply WPA.skip
    apply WPA.seq
    apply WPA.seq
    apply WPA.region
    · apply Trace.pu [] (.move (.plain rfl))
      apply Trace.pu [] (.len rfl Try.underlying22 (.plain rfl) rfl)
      apply Trace.pu [] (.move (.plain rfl))
      exact .nil _
    · exact keepOK_of hk hn rfl
    apply WPA.block
    refine WPA.loop (σ := Nat) (fun i => [(sl 23, .av (.d (intsD dl))), (sl 24, .av (iv .i64 (dl.length))), (sl 25, .av (iv .i64 (i)))]) (fun i => i ≤ dl.length ∧ ∀ j, j < i → 0 ≤ dl.getD j 0) (fun i => dl.length - i) 0
      (St.le_cons rfl (St.le_cons rfl (St.le_cons rfl (St.le_nil _)))) ⟨Nat.zero_le _, fun j h => by omega⟩ fun i hi => ?_
    apply WPA.seq
    apply WPA.region
    · apply Trace.pu [] (.cmp (.plain rfl) (.plain rfl) rfl)
      exact .nil _
    · exact keepOK_of hk hn rfl
    apply WPA.seq
    refine WPA.cond rfl (fun hc2 => ?_) (fun hc2 => ?_)
    · have hlt : i < dl.length := by simpa using hc2
      apply WPA.skip
      apply WPA.seq
      apply WPA.block
      apply WPA.seq
      apply WPA.region
      · first | apply Trace.pu [] (.indexRows el22 (.plain rfl) (.plain rfl) (fun _ => ⟨by omega, by omega⟩)) | apply Trace.pu [] (.indexOwn el22 (.plain rfl) (.plain rfl) (fun _ => ⟨by omega, by omega⟩)) | apply Trace.pu [] (.indexSl el22 (.plain rfl) (.plain rfl) (fun _ => ⟨by omega, by omega⟩))
        first | apply Trace.pu [_] (.loadLoc1D ty3 (.plain rfl) rfl rfl) | apply Trace.pu [_] (.loadLoc1 ty3 (.plain rfl) rfl rfl) | apply Trace.pu [] (.loadRp1 ty3 (.plain rfl) rfl) | apply Trace.pu [_] (.loadCol1 ty3 (.plain rfl) rfl rfl rfl (fun _ => by omega))
        apply Trace.pu [] (.assign (.plain rfl))
        exact .nil _
      · exact keepOK_of hk hn rfl
      apply WPA.seq
      apply WPA.region
      · apply Trace.pu [] (.move (.plain rfl))
        apply Trace.pu [] (.cmp (.plain rfl) (.plain rfl) rfl)
        exact .nil _
      · exact keepOK_of hk hn rfl
      refine WPA.cond rfl (fun hc3 => ?_) (fun hc3 => ?_)
      · apply WPA.seq
        apply WPA.region
        · apply Trace.pu [] (.assign (.plain rfl))
          exact .nil _
        · exact keepOK_of hk hn rfl
        apply WPA.ret
        refine ⟨.inr rfl, ⟨_, (.cons (.tmp rfl) .nil), ?_⟩, by simp [St.get]⟩
        have hx : dl.getD i 0 < 0 := of_decide_eq_true hc3
        have : g.short22 dl = false := by
          unfold Gr.short22
          rw [hS, Bool.true_and, List.all_eq_false]
          exact ⟨_, getD_in 0 hlt, by simp only [decide_eq_true_eq]; omega⟩
        rw [this]; rfl
      · apply WPA.skip
        apply WPA.region
        · apply Trace.pu [] (.arith (.plain rfl) (.plain rfl) rfl (fun _ => bd64 (by omega)))
          apply Trace.pu [] (.move (.plain rfl))
          exact .nil _
        · exact keepOK_of hk hn rfl
        have hx : ¬ dl.getD i 0 < 0 := of_decide_eq_false hc3
        exact ⟨i + 1, ⟨by omega, fun j h => by
          by_cases hj : j = i
          · rw [hj]; omega
          · exact hi.2 j (by omega)⟩, by omega, St.le_cons rfl (St.le_cons rfl (St.le_cons (slI (by omega)) (St.le_nil _)))⟩
    · apply WPA.exit
      apply WPA.seq
      apply WPA.region
      · apply Trace.pu [] (.assign (.plain rfl))
        exact .nil _
      · exact keepOK_of hk hn rfl
      apply WPA.ret
      refine ⟨.inr rfl, ⟨_, (.cons (.tmp rfl) .nil), ?_⟩, by simp [St.get]⟩
      have : g.short22 dl = true := by
        unfold Gr.short22
        rw [hS, Bool.true_and, List.all_eq_true]
        intro x hx
        obtain ⟨j, hj, rfl⟩ := List.mem_iff_getElem.1 hx
        have h9 := hi.2 j (by
          have : ¬ ((i : Int) < dl.length) := by simpa using hc2
          omega)
        rw [getD_lt _ _ hj] at h9
        simpa using h9
      rw [this]; rfl

/-- soundpost/soundpostlaw22.single -/
theorem spec21 (xs : List Int) (hx : xs.length ≤ 4096) : FnSpec Try.prog 21 [.d (intsD xs)] [] (.d (nextD (oneEach xs))) [] [] := by
  refine fnSpec_of (rs := [.tmp 2]) Try.func21 rfl rfl (Nat.le_of_ble_eq_true rfl) (by simp [St.get]) fun E hk hn => ?_
  apply WPA.seq
  apply WPA.region
  · apply Trace.pu [] (.assign (.plain rfl))
    exact .nil _
  · exact keepOK_of hk hn rfl
  apply WPA.seq
  apply WPA.seq
  apply WPA.region
  · apply Trace.pu [] (.move (.plain rfl))
    apply Trace.pu [] (.len rfl Try.underlying22 (.plain rfl) rfl)
    apply Trace.pu [] (.move (.plain rfl))
    exact .nil _
  · exact keepOK_of hk hn rfl
  apply WPA.block
  refine WPA.ghost (Ghost.ownNil (t := 2) (l := 90) (n := 1) (cs := [.ds []]) rfl (fun m c e hm hc => ?_) (by rw [hk]; simp) (by rw [hn]; decide) rfl (by simp [Col.len])) ?_
  · exact fresh_of (A := ⟨[], [], [(bk 90, none)], [90]⟩) rfl 90 (by simp) m c e (by simpa [Ax.names] using hm) hc
  refine WPA.loop (σ := Nat) (fun i => [(sl 2, .av (.own 90 i)), (sl 5, .av (.d (intsD xs))), (sl 6, .av (iv .i64 (xs.length))), (sl 7, .av (iv .i64 (i))), (bk 90, .blk (.app 1 i [.ds (dsC (oneEach (xs.take i)))]))]) (fun i => i ≤ xs.length) (fun i => xs.length - i) 0
    (St.le_cons rfl (St.le_cons rfl (St.le_cons rfl (St.le_cons rfl (St.le_cons rfl (St.le_nil _)))))) (Nat.zero_le _) fun i hi => ?_
  apply WPA.seq
  apply WPA.region
  · apply Trace.pu [] (.cmp (.plain rfl) (.plain rfl) rfl)
    exact .nil _
  · exact keepOK_of hk hn rfl
  apply WPA.seq
  refine WPA.cond rfl (fun hc1 => ?_) (fun hc1 => ?_)
  · have hlt : i < xs.length := by simpa using hc1
    obtain ⟨x, hxe⟩ : ∃ x, xs.getD i 0 = x := ⟨_, rfl⟩
    apply WPA.skip
    apply WPA.seq
    apply WPA.block
    apply WPA.seq
    apply WPA.region
    · first | apply Trace.pu [] (.indexRows el22 (.plain rfl) (.plain rfl) (fun _ => ⟨by omega, by omega⟩)) | apply Trace.pu [] (.indexOwn el22 (.plain rfl) (.plain rfl) (fun _ => ⟨by omega, by omega⟩)) | apply Trace.pu [] (.indexSl el22 (.plain rfl) (.plain rfl) (fun _ => ⟨by omega, by omega⟩))
      apply Trace.pu [] ((Pure.loadRp1 ty3 (.plain rfl) rfl).to (y := iv .i64 x) (by exact congrArg (iv .i64) hxe))
      apply Trace.pu [] (.assign (.plain rfl))
      exact .nil _
    · exact keepOK_of hk hn rfl
    apply WPA.region
    · apply Trace.pu [] (.move (.plain rfl))
      apply Trace.pu [] (.move (.plain rfl))
      apply Trace.buildRows (g := fun k => [.v (.int .i64 (([x] : List Int).getD k 0))]) so22 zo3 rfl (by decide) (by decide) (.cons (.plain rfl) rfl rfl (Nat.le_of_ble_eq_true rfl) (.nil _ _)) rfl (fun i hi => by cases i with | zero => rfl | succ k => omega)
      apply Trace.buildSlice 14 [] so28 zo22 rfl (by decide) (by decide) (.cons (.plain rfl) rfl rfl (Nat.le_of_ble_eq_true rfl) (.nil _ _)) rfl rfl rfl
      apply Trace.append 15 [bk 90, bk 14, sl 11, sl 14] ap28 kd28 (by decide) (.own (.plain rfl) rfl) (.own (.plain rfl) rfl) (Col.ones rfl) (labs_ok rfl) (by omega) (by omega) rfl rfl
      apply Trace.pu [] (.assign (.plain rfl))
      exact .nil _
    · exact keepOK_of hk hn rfl
    refine WPA.ghost (Ghost.swap 90 15 (by rw [hk]; decide) (by rw [hk]; decide) rfl) ?_
    apply WPA.region
    · apply Trace.pu [] (.arith (.plain rfl) (.plain rfl) rfl (fun _ => bd64 (by omega)))
      apply Trace.pu [] (.move (.plain rfl))
      exact .nil _
    · exact keepOK_of hk hn rfl
    refine ⟨i + 1, by omega, by omega, ?_⟩
    exact (St.le_cons rfl (St.le_cons rfl (St.le_cons rfl (St.le_cons (slI (by omega)) (St.le_cons (app_ds' rfl (by rw [List.take_add_one, List.getElem?_eq_getElem hlt]; rw [getD_lt _ _ hlt] at hxe; rw [hxe]; simp [dsC, oneEach])) (St.le_nil _))))))
  · have hie : i = xs.length := by
      have : ¬ ((i : Int) < xs.length) := by simpa using hc1
      omega
    subst hie
    rw [List.take_length]
    have hol : (oneEach xs).length = xs.length := by simp
    refine WPA.ghost (Ghost.freezeAs (t := 2) (l := 90) (g := fun i => [rowD ((oneEach xs).getD i [])]) rfl rfl (fun i hi => by show [Col.at (.ds (dsC (oneEach xs))) i] = _; rw [dsC_at (by omega)])) ?_
    apply WPA.exit
    apply WPA.seq
    apply WPA.region
    · apply Trace.pu [] (.move (.plain rfl))
      apply Trace.pu [] (.assign (.plain rfl))
      exact .nil _
    · exact keepOK_of hk hn rfl
    apply WPA.ret
    refine ⟨.inr rfl, ⟨_, (.cons (.tmp rfl) .nil), ?_⟩, by simp [St.get]⟩
    rw [show nextD (oneEach xs) = .rows 1 xs.length fun i => [rowD ((oneEach xs).getD i [])] from by show D.rows 1 (oneEach xs).length _ = _; rw [hol]]; rfl

/-- soundpost/soundpostlaw22.in -/
theorem spec23 (xs : List Int) (hx : xs.length ≤ 4096) (v : Int) : FnSpec Try.prog 23 [.d (intsD xs), iv .i64 v] [] (bv (decide (v ∈ xs))) [] [] := by
  refine fnSpec_of (rs := [.tmp 4]) Try.func23 rfl rfl (Nat.le_of_ble_eq_true rfl) (by simp [St.get]) fun E hk hn => ?_
  apply WPA.seq
  apply WPA.region
  · apply Trace.pu [] (.assign (.plain rfl))
    exact .nil _
  · exact keepOK_of hk hn rfl
  apply WPA.seq
  apply WPA.seq
  apply WPA.region
  · apply Trace.pu [] (.move (.plain rfl))
    apply Trace.pu [] (.len rfl Try.underlying22 (.plain rfl) rfl)
    apply Trace.pu [] (.move (.plain rfl))
    exact .nil _
  · exact keepOK_of hk hn rfl
  apply WPA.block
  refine WPA.loop (σ := Nat) (fun i => [(sl 1, .av (iv .i64 (v))), (sl 7, .av (.d (intsD xs))), (sl 8, .av (iv .i64 (xs.length))), (sl 9, .av (iv .i64 (i)))]) (fun i => i ≤ xs.length ∧ ∀ j, j < i → xs.getD j 0 ≠ v) (fun i => xs.length - i) 0
    (St.le_cons rfl (St.le_cons rfl (St.le_cons rfl (St.le_cons rfl (St.le_nil _))))) ⟨Nat.zero_le _, fun j h => by omega⟩ fun i hi => ?_
  apply WPA.seq
  apply WPA.region
  · apply Trace.pu [] (.cmp (.plain rfl) (.plain rfl) rfl)
    exact .nil _
  · exact keepOK_of hk hn rfl
  apply WPA.seq
  refine WPA.cond rfl (fun hc1 => ?_) (fun hc1 => ?_)
  · have hlt : i < xs.length := by simpa using hc1
    apply WPA.skip
    apply WPA.seq
    apply WPA.block
    apply WPA.seq
    apply WPA.region
    · first | apply Trace.pu [] (.indexRows el22 (.plain rfl) (.plain rfl) (fun _ => ⟨by omega, by omega⟩)) | apply Trace.pu [] (.indexOwn el22 (.plain rfl) (.plain rfl) (fun _ => ⟨by omega, by omega⟩)) | apply Trace.pu [] (.indexSl el22 (.plain rfl) (.plain rfl) (fun _ => ⟨by omega, by omega⟩))
      first | apply Trace.pu [_] (.loadLoc1D ty3 (.plain rfl) rfl rfl) | apply Trace.pu [_] (.loadLoc1 ty3 (.plain rfl) rfl rfl) | apply Trace.pu [] (.loadRp1 ty3 (.plain rfl) rfl) | apply Trace.pu [_] (.loadCol1 ty3 (.plain rfl) rfl rfl rfl (fun _ => by omega))
      apply Trace.pu [] (.assign (.plain rfl))
      exact .nil _
    · exact keepOK_of hk hn rfl
    apply WPA.seq
    apply WPA.region
    · apply Trace.pu [] (.move (.plain rfl))
      apply Trace.pu [] (.move (.plain rfl))
      apply Trace.pu [] (.cmp (.plain rfl) (.plain rfl) rfl)
      exact .nil _
    · exact keepOK_of hk hn rfl
    refine WPA.cond rfl (fun hc2 => ?_) (fun hc2 => ?_)
    · apply WPA.seq
      apply WPA.region
      · apply Trace.pu [] (.assign (.plain rfl))
        exact .nil _
      · exact keepOK_of hk hn rfl
      apply WPA.ret
      refine ⟨.inr rfl, ⟨_, (.cons (.tmp rfl) .nil), ?_⟩, by simp [St.get]⟩
      have hxv : xs.getD i 0 = v := of_decide_eq_true hc2
      rw [decide_eq_true (hxv ▸ getD_in 0 hlt : v ∈ xs)]; rfl
    · apply WPA.skip
      apply WPA.region
      · apply Trace.pu [] (.arith (.plain rfl) (.plain rfl) rfl (fun _ => bd64 (by omega)))
        apply Trace.pu [] (.move (.plain rfl))
        exact .nil _
      · exact keepOK_of hk hn rfl
      have hxv : ¬ xs.getD i 0 = v := of_decide_eq_false hc2
      exact ⟨i + 1, ⟨by omega, fun j h => by
        by_cases hj : j = i
        · rw [hj]; exact hxv
        · exact hi.2 j (by omega)⟩, by omega, St.le_cons rfl (St.le_cons rfl (St.le_cons rfl (St.le_cons (slI (by omega)) (St.le_nil _))))⟩
  · apply WPA.exit
    apply WPA.seq
    apply WPA.region
    · apply Trace.pu [] (.assign (.plain rfl))
      exact .nil _
    · exact keepOK_of hk hn rfl
    apply WPA.ret
    refine ⟨.inr rfl, ⟨_, (.cons (.tmp rfl) .nil), ?_⟩, by simp [St.get]⟩
    rw [decide_eq_false (fun hm : v ∈ xs => by
      obtain ⟨j, hj, hje⟩ := getD_idx hm
      exact hi.2 j (by
        have : ¬ ((i : Int) < xs.length) := by simpa using hc1
        omega) hje)]
    rfl

end Go.Proofs.Ytglokdfdogmmhaa


/- OrderLeast, OrderSequence. -/
namespace Go.Proofs.Ytglokdfdogmmhaa
open Go
set_option linter.unusedVariables false
set_option linter.unusedSimpArgs false
set_option maxRecDepth 10000
set_option maxHeartbeats 1000000

theorem plN {n : Nat} (hn : n ≤ 4096) {l : RL} (hp : Plc n l) (hl : l.length ≤ 4096) {q : List Int} (h : atTo n l l.length = q) : FnSpec Try.prog 18 [iv .i64 (n : Nat), .d (nextD l)] [] (.tup ([intsD q, .v (.bool true)].map .d)) [] [] := by
  have := spec18 hn hp hl
  rw [h] at this
  exact this
theorem least_ear {g : Gr} (h : g.OK) {i j : Nat} (hij : i < j) (hj : j < g.partsR.length) : hd (g.partsR.getD i []) < hd (g.partsR.getD j []) ∨ ∃ k, k < g.es.length ∧ g.earE (fun _ => true) g.atP ((i : Int) + 1) ((j : Int) + 1) k = true := by
  by_cases hlt : hd (g.partsR.getD i []) < hd (g.partsR.getD j [])
  · exact .inl hlt
  · right
    have hne : hd (g.partsR.getD j []) < hd (g.partsR.getD i []) := by
      obtain ⟨v, hv, _, hm, _, hh⟩ := partsR_mem h (i := i) (by omega)
      obtain ⟨w, hw, _, hm2, _, hh2⟩ := partsR_mem h hj
      rw [hh, hh2] at hlt
      rw [hh, hh2]
      by_cases e : v = w
      · subst e
        have := partsR_dis h (by omega) hj ((hm _).2 ⟨v, rfl, hv, .refl, .refl⟩) ((hm2 _).2 ⟨v, rfl, hv, .refl, .refl⟩)
        omega
      · omega
    obtain ⟨e, he, h1, h2, h3⟩ := atP_least h hij hj hne
    obtain ⟨k, hk, rfl⟩ := List.mem_iff_getElem.1 he
    exact ⟨k, hk, earE_of rfl (by rw [getD_lt _ _ hk]; exact h1) (by rw [getD_lt _ _ hk]; exact h2) (by rw [getD_lt _ _ hk]; exact h3)⟩
abbrev atQ (n : Nat) (l : List Int) : List Int := atTo n (oneEach l) (oneEach l).length
theorem atQ_at {g : Gr} {dl l : List Int} (h : Seqd g dl l) {j : Nat} (hj : j < l.length) {u : Int} (hu : l.getD j 0 = u) : (atQ g.lat.length l).getD u.toNat 0 = (j : Int) + 1 := by
  have hl : (oneEach l).length = l.length := by simp
  have hb := h.plc.rng j (by omega) u (by rw [oneEach_at hj, hu]; simp)
  refine atL_at h.plc hb.2 (by omega) ?_
  rw [oneEach_at hj, hu, show ((u.toNat : Nat) : Int) = u from by omega]; simp
theorem seqd_up {g : Gr} (hok : g.OK) {dl l : List Int} (h : Seqd g dl l) {k : Nat} (hk : k < g.es.length) (hd : dl.getD k 0 = 0) : (atQ g.lat.length l).getD (g.es.getD k default).f.toNat 0 < (atQ g.lat.length l).getD (g.es.getD k default).t.toNat 0 := by
  obtain ⟨_, hf, ht, h0, h1⟩ := Gr.edge hok hk
  obtain ⟨a, ha, hae⟩ := h.has _ hf
  obtain ⟨b, hb, hbe⟩ := h.has _ ht
  have hae : l.getD a 0 = (g.es.getD k default).f := by rw [hae]; omega
  have hbe : l.getD b 0 = (g.es.getD k default).t := by rw [hbe]; omega
  have := h.up k hk hd a b ha hb hae hbe
  rw [atQ_at h ha hae, atQ_at h hb hbe]
  omega
theorem seqd_ear {g : Gr} (hok : g.OK) {dl l : List Int} (h : Seqd g dl l) {i j : Nat} (hij : i < j) (hj : j < l.length) : l.getD i 0 < l.getD j 0 ∨ ∃ k, k < g.es.length ∧ g.earE (fun k => decide (dl.getD k 0 = 0)) (atQ g.lat.length l) ((i : Int) + 1) ((j : Int) + 1) k = true := by
  by_cases hlt : l.getD i 0 < l.getD j 0
  · exact .inl hlt
  · right
    have hol : (oneEach l).length = l.length := by simp
    have hne : l.getD i 0 ≠ l.getD j 0 := fun e => by
      have := h.plc.dis i j (by omega) (by omega) (l.getD i 0) (by rw [oneEach_at (by omega)]; simp) (by rw [oneEach_at hj, e]; simp)
      omega
    obtain ⟨k, a, hk, hd, ht, ha, hae, h1, h2⟩ := h.least i j hij hj (by omega)
    refine ⟨k, hk, earE_of (decide_eq_true hd) (by rw [ht]; exact atQ_at h hj rfl) ?_ ?_⟩
    · rw [atQ_at h ha hae]; omega
    · rw [atQ_at h ha hae]; omega
theorem atQ_len (n : Nat) (l : List Int) : (atQ n l).length = n := atTo_len _ _ _
/-- soundpost/soundpostlaw22.OrderLeast -/
theorem spec4 (g : Gr) (hz : g.Sz) : FnSpec Try.prog 4 [g.av] [] (bv true) [] [] := by
  have hn1 := hz.n
  have hn2 := hz.m
  refine fnSpec_of (rs := [.tmp 2]) Try.func4 rfl rfl (Nat.le_of_ble_eq_true rfl) (by simp [St.get]) fun E hk hn => ?_
  apply WPA.seq
  apply WPA.region
  · first | apply Trace.boxD 1 [] (.plain rfl) rfl rfl | apply Trace.box 1 [] (.plain rfl) rfl rfl rfl
    apply Trace.pu [] (.assign (.plain rfl))
    exact .nil _
  · exact keepOK_of hk hn rfl
  apply WPA.seq
  apply WPA.seq
  apply WPA.region
  · apply Trace.cu (callArgs0 .nil) spec9 en9
    apply Trace.pu [] (.not (.plain rfl))
    exact .nil _
  · exact keepOK_of hk hn rfl
  refine WPA.cond rfl (fun hc1 => ?_) (fun hc1 => ?_)
  · cases hc1
  · apply WPA.skip
    apply WPA.seq
    apply WPA.seq
    apply WPA.region
    · first | apply Trace.pu [_] (.loadAllD ty25 (.plain rfl) rfl (by simp)) | apply Trace.pu [_] (.loadLocD ty25 (.plain rfl) rfl (fun _ => by simp)) | apply Trace.pu [_] (.loadLoc ty25 (.plain rfl) rfl (fun _ => Nat.le_of_ble_eq_true rfl)) | apply Trace.pu [] (.loadRp ty25 (.plain rfl) (fun _ => by decide)) | apply Trace.pu [] (.loadRp ty25 (.plain rfl) (fun _ => Nat.le_of_ble_eq_true rfl)) | apply Trace.pu [_] (.loadCol ty25 (.plain rfl) rfl rfl (fun _ => by decide) (fun _ => by omega)) | apply Trace.pu [_] (.loadArr ty25 (.plain rfl) rfl)
      apply Trace.cu (callArgs0 (.cons (.plain rfl) .nil)) (spec10 g hz) en10
      apply Trace.pu [] (.not (.plain rfl))
      apply Trace.pu [] (.move (.plain rfl))
      first | apply Trace.pg [_] rfl (.loadAllD ty25 (.plain rfl) rfl (by simp)) | apply Trace.pg [_] rfl (.loadLocD ty25 (.plain rfl) rfl (fun _ => by simp)) | apply Trace.pg [_] rfl (.loadLoc ty25 (.plain rfl) rfl (fun _ => Nat.le_of_ble_eq_true rfl)) | apply Trace.pg [] rfl (.loadRp ty25 (.plain rfl) (fun _ => by decide)) | apply Trace.pg [] rfl (.loadRp ty25 (.plain rfl) (fun _ => Nat.le_of_ble_eq_true rfl)) | apply Trace.pg [_] rfl (.loadCol ty25 (.plain rfl) rfl rfl (fun _ => by decide) (fun _ => by omega)) | apply Trace.pg [_] rfl (.loadArr ty25 (.plain rfl) rfl)
      apply Trace.cg rfl (callArgs0 (.cons (.gd rfl (fun h => h)) .nil)) (fun _ => spec17 g hz) en17
      apply Trace.pg [] rfl (.cmp (.gd rfl (fun h => h)) (.plain rfl) rfl)
      apply Trace.pu [] (.pick (.plain rfl) (.plain rfl) (.gd rfl (by simp)))
      exact .nil _
    · exact keepOK_of hk hn rfl
    refine WPA.cond rfl (fun hc2 => ?_) (fun hc2 => ?_)
    · apply WPA.seq
      apply WPA.region
      · apply Trace.pu [] (.assign (.plain rfl))
        exact .nil _
      · exact keepOK_of hk hn rfl
      apply WPA.ret
      refine ⟨.inr rfl, ⟨_, (.cons (.tmp rfl) .nil), ?_⟩, by simp [St.get]⟩
      rfl
    · obtain ⟨hf, hC⟩ : g.few22 = true ∧ g.check = 0 := by
        have h9 : (bif !g.few22 then true else !decide (g.check = 0)) = false := hc2
        rw [bif_or', Bool.or_eq_false_iff, Bool.not_eq_false', Bool.not_eq_false', decide_eq_true_eq] at h9
        exact h9
      obtain ⟨h12, h40⟩ := few22_of hf
      have hok := check_ok2 hC
      have hplc := partsR_good hok
      have hpl : g.partsR.length ≤ g.lat.length := refTo_len _
      have hatl : g.atP.length = g.lat.length := atTo_len _ _ _
      apply WPA.skip
      apply WPA.seq
      apply WPA.region
      · first | apply Trace.pu [_] (.loadAllD ty25 (.plain rfl) rfl (by simp)) | apply Trace.pu [_] (.loadLocD ty25 (.plain rfl) rfl (fun _ => by simp)) | apply Trace.pu [_] (.loadLoc ty25 (.plain rfl) rfl (fun _ => Nat.le_of_ble_eq_true rfl)) | apply Trace.pu [] (.loadRp ty25 (.plain rfl) (fun _ => by decide)) | apply Trace.pu [] (.loadRp ty25 (.plain rfl) (fun _ => Nat.le_of_ble_eq_true rfl)) | apply Trace.pu [_] (.loadCol ty25 (.plain rfl) rfl rfl (fun _ => by decide) (fun _ => by omega)) | apply Trace.pu [_] (.loadArr ty25 (.plain rfl) rfl)
        apply Trace.ct (callArgs0 (.cons (.plain rfl) .nil)) (paN hz h12 (l := g.partsR) (c := 0) (by rw [if_pos hC, hC])) en11
        apply Trace.pu [] (.move (.plain rfl))
        apply Trace.pu [] (.extract (.plain rfl) rfl)
        apply Trace.pu [] (.extract (.plain rfl) rfl)
        apply Trace.pu [] (.assign (.plain rfl))
        apply Trace.pu [] (.assign (.plain rfl))
        exact .nil _
      · exact keepOK_of hk hn rfl
      apply WPA.seq
      apply WPA.region
      · apply Trace.pu [] (.fieldAddr fl25_0 (.plain rfl) rfl)
        first | apply Trace.pu [_] (.loadLoc1D ty22 (.plain rfl) rfl rfl) | apply Trace.pu [_] (.loadLoc1 ty22 (.plain rfl) rfl rfl) | apply Trace.pu [] (.loadRp1 ty22 (.plain rfl) rfl) | apply Trace.pu [_] (.loadCol1 ty22 (.plain rfl) rfl rfl rfl (fun _ => by omega))
        apply Trace.pu [] (.len rfl Try.underlying22 (.plain rfl) rfl)
        apply Trace.pu [] (.move (.plain rfl))
        apply Trace.ct (callArgs0 (.cons (.plain rfl) (.cons (.plain rfl) .nil))) (plN (by omega) hplc (by omega) (q := g.atP) rfl) en18
        apply Trace.pu [] (.move (.plain rfl))
        apply Trace.pu [] (.extract (.plain rfl) rfl)
        apply Trace.pu [] (.extract (.plain rfl) rfl)
        apply Trace.pu [] (.assign (.plain rfl))
        apply Trace.pu [] (.assign (.plain rfl))
        exact .nil _
      · exact keepOK_of hk hn rfl
      apply WPA.seq
      apply WPA.seq
      apply WPA.region
      · apply Trace.pu [] (.move (.plain rfl))
        apply Trace.pu [] (.cmp (.plain rfl) (.plain rfl) rfl)
        apply Trace.pu [] (.move (.plain rfl))
        apply Trace.pg [] rfl (.move (.plain rfl))
        apply Trace.pg [] rfl (.not (.gd rfl (fun h => h)))
        apply Trace.pu [] (.pick (.plain rfl) (.plain rfl) (.gd rfl (by simp)))
        exact .nil _
      · exact keepOK_of hk hn rfl
      refine WPA.cond rfl (fun hc3 => ?_) (fun hc3 => ?_)
      · cases hc3
      · apply WPA.skip
        apply WPA.seq
        apply WPA.seq
        apply WPA.region
        · apply Trace.pu [] (.move (.plain rfl))
          apply Trace.pu [] (.len rfl Try.underlying28 (.plain rfl) rfl)
          apply Trace.pu [] (.move (.plain rfl))
          exact .nil _
        · exact keepOK_of hk hn rfl
        apply WPA.block
        refine WPA.loop (σ := Nat) (fun i => [(sl 1, .av (.loc 1 0)), (sl 3, .av (.d (nextD g.partsR))), (sl 5, .av (.d (intsD g.atP))), (sl 39, .av (iv .i64 (g.partsR.length))), (sl 40, .av (iv .i64 (i))), (bk 1, .blk (.data g.ds))]) (fun i => i ≤ g.partsR.length) (fun i => g.partsR.length - i) 0
          (St.le_cons rfl (St.le_cons rfl (St.le_cons rfl (St.le_cons rfl (St.le_cons rfl (St.le_cons rfl (St.le_nil _))))))) (Nat.zero_le _) fun i hi => ?_
        apply WPA.seq
        apply WPA.region
        · apply Trace.pu [] (.cmp (.plain rfl) (.plain rfl) rfl)
          exact .nil _
        · exact keepOK_of hk hn rfl
        apply WPA.seq
        refine WPA.cond rfl (fun hc4 => ?_) (fun hc4 => ?_)
        · have hlt : i < g.partsR.length := by simpa using hc4
          apply WPA.skip
          apply WPA.seq
          apply WPA.block
          apply WPA.seq
          apply WPA.region
          · apply Trace.pu [] (.move (.plain rfl))
            apply Trace.pu [] (.assign (.plain rfl))
            exact .nil _
          · exact keepOK_of hk hn rfl
          apply WPA.seq
          apply WPA.region
          · apply Trace.pu [] (.move (.plain rfl))
            apply Trace.pu [] (.arith (.plain rfl) (.plain rfl) rfl (fun _ => bd64 (by omega)))
            apply Trace.pu [] (.assign (.plain rfl))
            exact .nil _
          · exact keepOK_of hk hn rfl
          apply WPA.block
          refine WPA.loop (σ := Nat) (fun j => [(sl 1, .av (.loc 1 0)), (sl 3, .av (.d (nextD g.partsR))), (sl 5, .av (.d (intsD g.atP))), (sl 39, .av (iv .i64 (g.partsR.length))), (sl 40, .av (iv .i64 (i))), (sl 7, .av (iv .i64 (i))), (sl 8, .av (iv .i64 (j))), (bk 1, .blk (.data g.ds))]) (fun j => i < j ∧ j ≤ g.partsR.length) (fun j => g.partsR.length - j) (i + 1)
            (St.le_cons rfl (St.le_cons rfl (St.le_cons rfl (St.le_cons rfl (St.le_cons rfl (St.le_cons rfl (St.le_cons (slI (by omega)) (St.le_cons rfl (St.le_nil _))))))))) ⟨by omega, by omega⟩ fun j hj => ?_
          apply WPA.seq
          apply WPA.seq
          apply WPA.region
          · apply Trace.pu [] (.move (.plain rfl))
            apply Trace.pu [] (.move (.plain rfl))
            apply Trace.pu [] (.len rfl Try.underlying28 (.plain rfl) rfl)
            apply Trace.pu [] (.cmp (.plain rfl) (.plain rfl) rfl)
            exact .nil _
          · exact keepOK_of hk hn rfl
          refine WPA.cond rfl (fun hc5 => ?_) (fun hc5 => ?_)
          · have hjl : j < g.partsR.length := by simpa using hc5
            have hne1 := hplc.ne i hlt
            have hne2 := hplc.ne j hjl
            apply WPA.skip
            apply WPA.seq
            apply WPA.block
            apply WPA.seq
            apply WPA.draw mixed
            · first | apply Trace.pu [_] (.loadAllD ty25 (.plain rfl) rfl (by simp)) | apply Trace.pu [_] (.loadLocD ty25 (.plain rfl) rfl (fun _ => by simp)) | apply Trace.pu [_] (.loadLoc ty25 (.plain rfl) rfl (fun _ => Nat.le_of_ble_eq_true rfl)) | apply Trace.pu [] (.loadRp ty25 (.plain rfl) (fun _ => by decide)) | apply Trace.pu [] (.loadRp ty25 (.plain rfl) (fun _ => Nat.le_of_ble_eq_true rfl)) | apply Trace.pu [_] (.loadCol ty25 (.plain rfl) rfl rfl (fun _ => by decide) (fun _ => by omega)) | apply Trace.pu [_] (.loadArr ty25 (.plain rfl) rfl)
              apply Trace.pu [] (.move (.plain rfl))
              apply Trace.pu [] (.move (.plain rfl))
              apply Trace.pu [] (.arith (.plain rfl) (.plain rfl) rfl (fun _ => bd64 (by omega)))
              apply Trace.pu [] (.move (.plain rfl))
              apply Trace.pu [] (.arith (.plain rfl) (.plain rfl) rfl (fun _ => bd64 (by omega)))
              apply Trace.pu [] (.move (.plain rfl))
              apply Trace.pu [] (.move (.plain rfl))
              first | apply Trace.pu [] (.indexRows el28 (.plain rfl) (.plain rfl) (fun _ => ⟨by omega, by omega⟩)) | apply Trace.pu [] (.indexOwn el28 (.plain rfl) (.plain rfl) (fun _ => ⟨by omega, by omega⟩)) | apply Trace.pu [] (.indexSl el28 (.plain rfl) (.plain rfl) (fun _ => ⟨by omega, by omega⟩))
              apply Trace.pu [] ((Pure.loadRp1 ty22 (.plain rfl) rfl).to (y := .d (rowD (g.partsR.getD i []))) rfl)
              first | apply Trace.pu [] (.indexRows el22 (.plain rfl) (.plain rfl) (fun _ => ⟨by omega, by omega⟩)) | apply Trace.pu [] (.indexOwn el22 (.plain rfl) (.plain rfl) (fun _ => ⟨by omega, by omega⟩)) | apply Trace.pu [] (.indexSl el22 (.plain rfl) (.plain rfl) (fun _ => ⟨by omega, by omega⟩))
              first | apply Trace.pu [_] (.loadLoc1D ty3 (.plain rfl) rfl rfl) | apply Trace.pu [_] (.loadLoc1 ty3 (.plain rfl) rfl rfl) | apply Trace.pu [] (.loadRp1 ty3 (.plain rfl) rfl) | apply Trace.pu [_] (.loadCol1 ty3 (.plain rfl) rfl rfl rfl (fun _ => by omega))
              apply Trace.pu [] (.move (.plain rfl))
              apply Trace.pu [] (.move (.plain rfl))
              first | apply Trace.pu [] (.indexRows el28 (.plain rfl) (.plain rfl) (fun _ => ⟨by omega, by omega⟩)) | apply Trace.pu [] (.indexOwn el28 (.plain rfl) (.plain rfl) (fun _ => ⟨by omega, by omega⟩)) | apply Trace.pu [] (.indexSl el28 (.plain rfl) (.plain rfl) (fun _ => ⟨by omega, by omega⟩))
              apply Trace.pu [] ((Pure.loadRp1 ty22 (.plain rfl) rfl).to (y := .d (rowD (g.partsR.getD j []))) rfl)
              first | apply Trace.pu [] (.indexRows el22 (.plain rfl) (.plain rfl) (fun _ => ⟨by omega, by omega⟩)) | apply Trace.pu [] (.indexOwn el22 (.plain rfl) (.plain rfl) (fun _ => ⟨by omega, by omega⟩)) | apply Trace.pu [] (.indexSl el22 (.plain rfl) (.plain rfl) (fun _ => ⟨by omega, by omega⟩))
              first | apply Trace.pu [_] (.loadLoc1D ty3 (.plain rfl) rfl rfl) | apply Trace.pu [_] (.loadLoc1 ty3 (.plain rfl) rfl rfl) | apply Trace.pu [] (.loadRp1 ty3 (.plain rfl) rfl) | apply Trace.pu [_] (.loadCol1 ty3 (.plain rfl) rfl rfl rfl (fun _ => by omega))
              apply Trace.cu (callArgs0 (.cons (.plain rfl) (.cons (.plain rfl) (.cons (.plain rfl) (.cons (.plain rfl) (.cons (.plain rfl) (.cons (.plain rfl) (.cons (.plain rfl) .nil)))))))) (earN hok hatl (least_ear hok hj.1 hjl)) en19
              exact .nil _
            · rfl
            · exact keepOK_of hk hn rfl
            refine WPA.cond rfl (fun hc6 => ?_) (fun hc6 => ?_)
            · cases hc6
            · apply WPA.skip
              apply WPA.region
              · apply Trace.pu [] (.move (.plain rfl))
                apply Trace.pu [] (.arith (.plain rfl) (.plain rfl) rfl (fun _ => bd64 (by omega)))
                apply Trace.pu [] (.assign (.plain rfl))
                exact .nil _
              · exact keepOK_of hk hn rfl
              refine ⟨j + 1, ⟨by omega, by omega⟩, by omega, ?_⟩
              exact (St.le_cons rfl (St.le_cons rfl (St.le_cons rfl (St.le_cons rfl (St.le_cons rfl (St.le_cons rfl (St.le_cons (slI (by omega)) (St.le_cons rfl (St.le_nil _)))))))))
          · apply WPA.exit
            apply WPA.region
            · apply Trace.pu [] (.arith (.plain rfl) (.plain rfl) rfl (fun _ => bd64 (by omega)))
              apply Trace.pu [] (.move (.plain rfl))
              exact .nil _
            · exact keepOK_of hk hn rfl
            refine ⟨i + 1, by omega, by omega, ?_⟩
            exact (St.le_cons rfl (St.le_cons rfl (St.le_cons rfl (St.le_cons rfl (St.le_cons (slI (by omega)) (St.le_cons rfl (St.le_nil _)))))))
        · apply WPA.exit
          apply WPA.seq
          apply WPA.region
          · apply Trace.pu [] (.assign (.plain rfl))
            exact .nil _
          · exact keepOK_of hk hn rfl
          apply WPA.ret
          refine ⟨.inr rfl, ⟨_, (.cons (.tmp rfl) .nil), ?_⟩, by simp [St.get]⟩
          rfl

/-- soundpost/soundpostlaw22.OrderSequence -/
theorem spec5 (g : Gr) (hz : g.Sz) (dl : List Int) (hd : dl.length ≤ 4611686018427387904) : FnSpec Try.prog 5 [g.av, .d (intsD dl)] [] (bv true) [] [] := by
  have hn1 := hz.n
  have hn2 := hz.m
  refine fnSpec_of (rs := [.tmp 4]) Try.func5 rfl rfl (Nat.le_of_ble_eq_true rfl) (by simp [St.get]) fun E hk hn => ?_
  apply WPA.seq
  apply WPA.region
  · first | apply Trace.boxD 2 [] (.plain rfl) rfl rfl | apply Trace.box 2 [] (.plain rfl) rfl rfl rfl
    apply Trace.pu [] (.assign (.plain rfl))
    exact .nil _
  · exact keepOK_of hk hn rfl
  apply WPA.seq
  apply WPA.seq
  apply WPA.region
  · apply Trace.cu (callArgs0 .nil) spec9 en9
    apply Trace.pu [] (.not (.plain rfl))
    exact .nil _
  · exact keepOK_of hk hn rfl
  refine WPA.cond rfl (fun hc1 => ?_) (fun hc1 => ?_)
  · cases hc1
  · apply WPA.skip
    apply WPA.seq
    apply WPA.seq
    apply WPA.region
    · first | apply Trace.pu [_] (.loadAllD ty25 (.plain rfl) rfl (by simp)) | apply Trace.pu [_] (.loadLocD ty25 (.plain rfl) rfl (fun _ => by simp)) | apply Trace.pu [_] (.loadLoc ty25 (.plain rfl) rfl (fun _ => Nat.le_of_ble_eq_true rfl)) | apply Trace.pu [] (.loadRp ty25 (.plain rfl) (fun _ => by decide)) | apply Trace.pu [] (.loadRp ty25 (.plain rfl) (fun _ => Nat.le_of_ble_eq_true rfl)) | apply Trace.pu [_] (.loadCol ty25 (.plain rfl) rfl rfl (fun _ => by decide) (fun _ => by omega)) | apply Trace.pu [_] (.loadArr ty25 (.plain rfl) rfl)
      apply Trace.pu [] (.move (.plain rfl))
      apply Trace.cu (callArgs0 (.cons (.plain rfl) (.cons (.plain rfl) .nil))) (spec20 g hz dl hd) en20
      apply Trace.pu [] (.not (.plain rfl))
      exact .nil _
    · exact keepOK_of hk hn rfl
    refine WPA.cond rfl (fun hc2 => ?_) (fun hc2 => ?_)
    · apply WPA.seq
      apply WPA.region
      · apply Trace.pu [] (.assign (.plain rfl))
        exact .nil _
      · exact keepOK_of hk hn rfl
      apply WPA.ret
      refine ⟨.inr rfl, ⟨_, (.cons (.tmp rfl) .nil), ?_⟩, by simp [St.get]⟩
      rfl
    · have hS : g.short22 dl = true := by simpa using hc2
      obtain ⟨hf, hC, hdl, hB⟩ := short22_of hS
      obtain ⟨h12, h40⟩ := few22_of hf
      have hok := check_ok2 hC
      apply WPA.skip
      apply WPA.seq
      rcases seqE_cases hB with ⟨s, hs, hso⟩ | ⟨hs, hso⟩
      · have hE : g.seqE dl = (s.2, 0) := seqE_ok hC hB hs
        have hq := seq_seqd hok hs
        have hsl := hq.len
        have hol : (oneEach s.2).length = s.2.length := by simp
        have hal := atQ_len g.lat.length s.2
        apply WPA.region
        · first | apply Trace.pu [_] (.loadAllD ty25 (.plain rfl) rfl (by simp)) | apply Trace.pu [_] (.loadLocD ty25 (.plain rfl) rfl (fun _ => by simp)) | apply Trace.pu [_] (.loadLoc ty25 (.plain rfl) rfl (fun _ => Nat.le_of_ble_eq_true rfl)) | apply Trace.pu [] (.loadRp ty25 (.plain rfl) (fun _ => by decide)) | apply Trace.pu [] (.loadRp ty25 (.plain rfl) (fun _ => Nat.le_of_ble_eq_true rfl)) | apply Trace.pu [_] (.loadCol ty25 (.plain rfl) rfl rfl (fun _ => by decide) (fun _ => by omega)) | apply Trace.pu [_] (.loadArr ty25 (.plain rfl) rfl)
          apply Trace.pu [] (.move (.plain rfl))
          apply Trace.ct (callArgs0 (.cons (.plain rfl) (.cons (.plain rfl) .nil))) (seN hz hd hE) en13
          apply Trace.pu [] (.move (.plain rfl))
          apply Trace.pu [] (.extract (.plain rfl) rfl)
          apply Trace.pu [] (.extract (.plain rfl) rfl)
          apply Trace.pu [] (.assign (.plain rfl))
          apply Trace.pu [] (.assign (.plain rfl))
          exact .nil _
        · exact keepOK_of hk hn rfl
        apply WPA.seq
        apply WPA.seq
        apply WPA.region
        · apply Trace.pu [] (.move (.plain rfl))
          apply Trace.pu [] (.cmp (.plain rfl) (.plain rfl) rfl)
          exact .nil _
        · exact keepOK_of hk hn rfl
        refine WPA.cond rfl (fun hc3 => ?_) (fun hc3 => ?_)
        · cases hc3
        · apply WPA.skip
          apply WPA.seq
          apply WPA.draw mixed
          · apply Trace.pu [] (.fieldAddr fl25_0 (.plain rfl) rfl)
            first | apply Trace.pu [_] (.loadLoc1D ty22 (.plain rfl) rfl rfl) | apply Trace.pu [_] (.loadLoc1 ty22 (.plain rfl) rfl rfl) | apply Trace.pu [] (.loadRp1 ty22 (.plain rfl) rfl) | apply Trace.pu [_] (.loadCol1 ty22 (.plain rfl) rfl rfl rfl (fun _ => by omega))
            apply Trace.pu [] (.len rfl Try.underlying22 (.plain rfl) rfl)
            apply Trace.pu [] (.move (.plain rfl))
            apply Trace.cu (callArgs0 (.cons (.plain rfl) .nil)) (spec21 s.2 (by omega)) en21
            apply Trace.ct (callArgs0 (.cons (.plain rfl) (.cons (.plain rfl) .nil))) (plN (by omega) hq.plc (by omega) (q := atQ g.lat.length s.2) rfl) en18
            apply Trace.pu [] (.move (.plain rfl))
            apply Trace.pu [] (.extract (.plain rfl) rfl)
            apply Trace.pu [] (.extract (.plain rfl) rfl)
            apply Trace.pu [] (.assign (.plain rfl))
            apply Trace.pu [] (.assign (.plain rfl))
            exact .nil _
          · rfl
          · exact keepOK_of hk hn rfl
          apply WPA.seq
          apply WPA.seq
          apply WPA.region
          · apply Trace.pu [] (.move (.plain rfl))
            apply Trace.pu [] (.not (.plain rfl))
            exact .nil _
          · exact keepOK_of hk hn rfl
          refine WPA.cond rfl (fun hc4 => ?_) (fun hc4 => ?_)
          · cases hc4
          · apply WPA.skip
            apply WPA.seq
            apply WPA.seq
            apply WPA.region
            · apply Trace.pu [] (.fieldAddr fl25_1 (.plain rfl) rfl)
              first | apply Trace.pu [_] (.loadLoc1D ty23 (.plain rfl) rfl rfl) | apply Trace.pu [_] (.loadLoc1 ty23 (.plain rfl) rfl rfl) | apply Trace.pu [] (.loadRp1 ty23 (.plain rfl) rfl) | apply Trace.pu [_] (.loadCol1 ty23 (.plain rfl) rfl rfl rfl (fun _ => by omega))
              apply Trace.pu [] (.len rfl Try.underlying23 (.plain rfl) rfl)
              apply Trace.pu [] (.move (.plain rfl))
              exact .nil _
            · exact keepOK_of hk hn rfl
            apply WPA.block
            refine WPA.loop (σ := Nat) (fun i => [(sl 1, .av (.d (intsD dl))), (sl 2, .av (.loc 2 0)), (sl 5, .av (.d (intsD s.2))), (sl 7, .av (.d (intsD (atQ g.lat.length s.2)))), (sl 46, .av (.d (edgesD g.es))), (sl 47, .av (iv .i64 (g.es.length))), (sl 48, .av (iv .i64 (i))), (bk 2, .blk (.data g.ds))]) (fun i => i ≤ g.es.length) (fun i => g.es.length - i) 0
              (St.le_cons rfl (St.le_cons rfl (St.le_cons rfl (St.le_cons rfl (St.le_cons rfl (St.le_cons rfl (St.le_cons rfl (St.le_cons rfl (St.le_nil _))))))))) (Nat.zero_le _) fun i hi => ?_
            apply WPA.seq
            apply WPA.region
            · apply Trace.pu [] (.cmp (.plain rfl) (.plain rfl) rfl)
              exact .nil _
            · exact keepOK_of hk hn rfl
            apply WPA.seq
            refine WPA.cond rfl (fun hc5 => ?_) (fun hc5 => ?_)
            · have hlt : i < g.es.length := by simpa using hc5
              obtain ⟨e, he⟩ : ∃ e, g.es.getD i default = e := ⟨_, rfl⟩
              obtain ⟨hem, hef, het, hef0, het0⟩ := he ▸ Gr.edge hok hlt
              apply WPA.skip
              apply WPA.seq
              apply WPA.block
              apply WPA.seq
              apply WPA.region
              · apply Trace.pu [] (.move (.plain rfl))
                apply Trace.pu [] ((Pure.indexRows el23 (.plain rfl) (.plain rfl) (fun _ => ⟨by omega, by omega⟩)).to (y := .rp e.ds) (by show AV.rp (g.es.getD i default).ds = _; rw [he]))
                first | apply Trace.pu [_] (.loadAllD ty43 (.plain rfl) rfl (by simp)) | apply Trace.pu [_] (.loadLocD ty43 (.plain rfl) rfl (fun _ => by simp)) | apply Trace.pu [_] (.loadLoc ty43 (.plain rfl) rfl (fun _ => Nat.le_of_ble_eq_true rfl)) | apply Trace.pu [] (.loadRp ty43 (.plain rfl) (fun _ => by decide)) | apply Trace.pu [] (.loadRp ty43 (.plain rfl) (fun _ => Nat.le_of_ble_eq_true rfl)) | apply Trace.pu [_] (.loadCol ty43 (.plain rfl) rfl rfl (fun _ => by decide) (fun _ => by omega)) | apply Trace.pu [_] (.loadArr ty43 (.plain rfl) rfl)
                apply Trace.alloc 10 [] (.data _) zo43 (cellsAs_data _) rfl
                apply Trace.pu [] (.assign (.plain rfl))
                first | apply Trace.storeD ty43 (.plain rfl) (.plain rfl) rfl rfl (by simp) (by simp [AV.oneB, single]) (by simp) (spliceL_all (by simp)) | apply Trace.storeD ty43 (.plain rfl) (.plain rfl) rfl rfl (by simp) (by simp [AV.oneB, single]) (by simp) rfl | apply Trace.storeDA ty43 (.plain rfl) (.plain rfl) rfl rfl (by simp) (by simp [AV.oneB, single]) (by simp) rfl | apply Trace.storeLoc ty43 (.plain rfl) (.plain rfl) rfl rfl (by simp) (by simp [AV.oneB, single]) (by simp) rfl | apply Trace.storeRow ty43 (.plain rfl) (.plain rfl) rfl rfl rfl rfl (by decide) (by simp [AV.oneB, single]) rfl (by omega)
                exact .nil _
              · exact keepOK_of hk hn rfl
              apply WPA.seq
              apply WPA.draw mixed
              · apply Trace.pu [] (.move (.plain rfl))
                apply Trace.pu [] (.move (.plain rfl))
                first | apply Trace.pu [] (.indexRows el22 (.plain rfl) (.plain rfl) (fun _ => ⟨by omega, by omega⟩)) | apply Trace.pu [] (.indexOwn el22 (.plain rfl) (.plain rfl) (fun _ => ⟨by omega, by omega⟩)) | apply Trace.pu [] (.indexSl el22 (.plain rfl) (.plain rfl) (fun _ => ⟨by omega, by omega⟩))
                first | apply Trace.pu [_] (.loadLoc1D ty3 (.plain rfl) rfl rfl) | apply Trace.pu [_] (.loadLoc1 ty3 (.plain rfl) rfl rfl) | apply Trace.pu [] (.loadRp1 ty3 (.plain rfl) rfl) | apply Trace.pu [_] (.loadCol1 ty3 (.plain rfl) rfl rfl rfl (fun _ => by omega))
                apply Trace.pu [] (.cmp (.plain rfl) (.plain rfl) rfl)
                apply Trace.pu [] (.move (.plain rfl))
                apply Trace.pg [] rfl (.move (.plain rfl))
                apply Trace.pg [] rfl (.fieldAddr fl43_0 (.plain rfl) rfl)
                first | apply Trace.pg [_] rfl (.loadLoc1D ty3 (.gd rfl (fun h => h)) rfl rfl) | apply Trace.pg [_] rfl (.loadLoc1 ty3 (.gd rfl (fun h => h)) rfl rfl) | apply Trace.pg [] rfl (.loadRp1 ty3 (.gd rfl (fun h => h)) rfl) | apply Trace.pg [_] rfl (.loadCol1 ty3 (.gd rfl (fun h => h)) rfl rfl rfl (fun _ => by omega))
                first | apply Trace.pg [] rfl (.indexRows el22 (.gd rfl (fun h => h)) (.gd rfl (fun h => h)) (fun _ => ⟨by omega, by omega⟩)) | apply Trace.pg [] rfl (.indexOwn el22 (.gd rfl (fun h => h)) (.gd rfl (fun h => h)) (fun _ => ⟨by omega, by omega⟩)) | apply Trace.pg [] rfl (.indexSl el22 (.gd rfl (fun h => h)) (.gd rfl (fun h => h)) (fun _ => ⟨by omega, by omega⟩))
                first | apply Trace.pg [_] rfl (.loadLoc1D ty3 (.gd rfl (fun h => h)) rfl rfl) | apply Trace.pg [_] rfl (.loadLoc1 ty3 (.gd rfl (fun h => h)) rfl rfl) | apply Trace.pg [] rfl (.loadRp1 ty3 (.gd rfl (fun h => h)) rfl) | apply Trace.pg [_] rfl (.loadCol1 ty3 (.gd rfl (fun h => h)) rfl rfl rfl (fun _ => by omega))
                apply Trace.pg [] rfl (.move (.plain rfl))
                apply Trace.pg [] rfl (.fieldAddr fl43_1 (.plain rfl) rfl)
                first | apply Trace.pg [_] rfl (.loadLoc1D ty3 (.gd rfl (fun h => h)) rfl rfl) | apply Trace.pg [_] rfl (.loadLoc1 ty3 (.gd rfl (fun h => h)) rfl rfl) | apply Trace.pg [] rfl (.loadRp1 ty3 (.gd rfl (fun h => h)) rfl) | apply Trace.pg [_] rfl (.loadCol1 ty3 (.gd rfl (fun h => h)) rfl rfl rfl (fun _ => by omega))
                first | apply Trace.pg [] rfl (.indexRows el22 (.gd rfl (fun h => h)) (.gd rfl (fun h => h)) (fun _ => ⟨by omega, by omega⟩)) | apply Trace.pg [] rfl (.indexOwn el22 (.gd rfl (fun h => h)) (.gd rfl (fun h => h)) (fun _ => ⟨by omega, by omega⟩)) | apply Trace.pg [] rfl (.indexSl el22 (.gd rfl (fun h => h)) (.gd rfl (fun h => h)) (fun _ => ⟨by omega, by omega⟩))
                first | apply Trace.pg [_] rfl (.loadLoc1D ty3 (.gd rfl (fun h => h)) rfl rfl) | apply Trace.pg [_] rfl (.loadLoc1 ty3 (.gd rfl (fun h => h)) rfl rfl) | apply Trace.pg [] rfl (.loadRp1 ty3 (.gd rfl (fun h => h)) rfl) | apply Trace.pg [_] rfl (.loadCol1 ty3 (.gd rfl (fun h => h)) rfl rfl rfl (fun _ => by omega))
                apply Trace.pg [] rfl (.cmp (.gd rfl (fun h => h)) (.gd rfl (fun h => h)) rfl)
                apply Trace.pu [] (.pick (.plain rfl) (.gd rfl (by simp)) (.plain rfl))
                exact .nil _
              · rfl
              · exact keepOK_of hk hn rfl
              refine WPA.cond rfl (fun hc6 => ?_) (fun hc6 => ?_)
              · have h9 : (bif decide (dl.getD i 0 = 0) then decide ((atQ g.lat.length s.2).getD e.t.toNat 0 ≤ (atQ g.lat.length s.2).getD e.f.toNat 0) else false) = true := hc6
                rw [bif_and', Bool.and_eq_true, decide_eq_true_eq, decide_eq_true_eq] at h9
                have := seqd_up hok hq hlt h9.1
                rw [he] at this
                omega
              · apply WPA.skip
                apply WPA.region
                · apply Trace.pu [] (.arith (.plain rfl) (.plain rfl) rfl (fun _ => bd64 (by omega)))
                  apply Trace.pu [] (.move (.plain rfl))
                  exact .nil _
                · exact keepOK_of hk hn rfl
                refine ⟨i + 1, by omega, by omega, ?_⟩
                exact (St.le_cons rfl (St.le_cons rfl (St.le_cons rfl (St.le_cons rfl (St.le_cons rfl (St.le_cons rfl (St.le_cons (slI (by omega)) (St.le_cons rfl (St.le_nil _)))))))))
            · apply WPA.exit
              apply WPA.seq
              apply WPA.seq
              apply WPA.region
              · apply Trace.pu [] (.move (.plain rfl))
                apply Trace.pu [] (.len rfl Try.underlying22 (.plain rfl) rfl)
                apply Trace.pu [] (.move (.plain rfl))
                exact .nil _
              · exact keepOK_of hk hn rfl
              apply WPA.block
              refine WPA.loop (σ := Nat) (fun i => [(sl 1, .av (.d (intsD dl))), (sl 2, .av (.loc 2 0)), (sl 5, .av (.d (intsD s.2))), (sl 7, .av (.d (intsD (atQ g.lat.length s.2)))), (sl 73, .av (iv .i64 (s.2.length))), (sl 74, .av (iv .i64 (i))), (bk 2, .blk (.data g.ds))]) (fun i => i ≤ s.2.length) (fun i => s.2.length - i) 0
                (St.le_cons rfl (St.le_cons rfl (St.le_cons rfl (St.le_cons rfl (St.le_cons rfl (St.le_cons rfl (St.le_cons rfl (St.le_nil _)))))))) (Nat.zero_le _) fun i hi => ?_
              apply WPA.seq
              apply WPA.region
              · apply Trace.pu [] (.cmp (.plain rfl) (.plain rfl) rfl)
                exact .nil _
              · exact keepOK_of hk hn rfl
              apply WPA.seq
              refine WPA.cond rfl (fun hc7 => ?_) (fun hc7 => ?_)
              · have hlt : i < s.2.length := by simpa using hc7
                apply WPA.skip
                apply WPA.seq
                apply WPA.block
                apply WPA.seq
                apply WPA.region
                · apply Trace.pu [] (.move (.plain rfl))
                  apply Trace.pu [] (.assign (.plain rfl))
                  exact .nil _
                · exact keepOK_of hk hn rfl
                apply WPA.seq
                apply WPA.region
                · apply Trace.pu [] (.move (.plain rfl))
                  apply Trace.pu [] (.arith (.plain rfl) (.plain rfl) rfl (fun _ => bd64 (by omega)))
                  apply Trace.pu [] (.assign (.plain rfl))
                  exact .nil _
                · exact keepOK_of hk hn rfl
                apply WPA.block
                refine WPA.loop (σ := Nat) (fun j => [(sl 1, .av (.d (intsD dl))), (sl 2, .av (.loc 2 0)), (sl 5, .av (.d (intsD s.2))), (sl 7, .av (.d (intsD (atQ g.lat.length s.2)))), (sl 73, .av (iv .i64 (s.2.length))), (sl 74, .av (iv .i64 (i))), (sl 11, .av (iv .i64 (i))), (sl 12, .av (iv .i64 (j))), (bk 2, .blk (.data g.ds))]) (fun j => i < j ∧ j ≤ s.2.length) (fun j => s.2.length - j) (i + 1)
                  (St.le_cons rfl (St.le_cons rfl (St.le_cons rfl (St.le_cons rfl (St.le_cons rfl (St.le_cons rfl (St.le_cons rfl (St.le_cons (slI (by omega)) (St.le_cons rfl (St.le_nil _)))))))))) ⟨by omega, by omega⟩ fun j hj => ?_
                apply WPA.seq
                apply WPA.seq
                apply WPA.region
                · apply Trace.pu [] (.move (.plain rfl))
                  apply Trace.pu [] (.move (.plain rfl))
                  apply Trace.pu [] (.len rfl Try.underlying22 (.plain rfl) rfl)
                  apply Trace.pu [] (.cmp (.plain rfl) (.plain rfl) rfl)
                  exact .nil _
                · exact keepOK_of hk hn rfl
                refine WPA.cond rfl (fun hc8 => ?_) (fun hc8 => ?_)
                · have hjl : j < s.2.length := by simpa using hc8
                  apply WPA.skip
                  apply WPA.seq
                  apply WPA.block
                  apply WPA.seq
                  apply WPA.draw mixed
                  · first | apply Trace.pu [_] (.loadAllD ty25 (.plain rfl) rfl (by simp)) | apply Trace.pu [_] (.loadLocD ty25 (.plain rfl) rfl (fun _ => by simp)) | apply Trace.pu [_] (.loadLoc ty25 (.plain rfl) rfl (fun _ => Nat.le_of_ble_eq_true rfl)) | apply Trace.pu [] (.loadRp ty25 (.plain rfl) (fun _ => by decide)) | apply Trace.pu [] (.loadRp ty25 (.plain rfl) (fun _ => Nat.le_of_ble_eq_true rfl)) | apply Trace.pu [_] (.loadCol ty25 (.plain rfl) rfl rfl (fun _ => by decide) (fun _ => by omega)) | apply Trace.pu [_] (.loadArr ty25 (.plain rfl) rfl)
                    apply Trace.pu [] (.move (.plain rfl))
                    apply Trace.pu [] (.move (.plain rfl))
                    apply Trace.pu [] (.move (.plain rfl))
                    apply Trace.pu [] (.arith (.plain rfl) (.plain rfl) rfl (fun _ => bd64 (by omega)))
                    apply Trace.pu [] (.move (.plain rfl))
                    apply Trace.pu [] (.arith (.plain rfl) (.plain rfl) rfl (fun _ => bd64 (by omega)))
                    apply Trace.pu [] (.move (.plain rfl))
                    apply Trace.pu [] (.move (.plain rfl))
                    first | apply Trace.pu [] (.indexRows el22 (.plain rfl) (.plain rfl) (fun _ => ⟨by omega, by omega⟩)) | apply Trace.pu [] (.indexOwn el22 (.plain rfl) (.plain rfl) (fun _ => ⟨by omega, by omega⟩)) | apply Trace.pu [] (.indexSl el22 (.plain rfl) (.plain rfl) (fun _ => ⟨by omega, by omega⟩))
                    first | apply Trace.pu [_] (.loadLoc1D ty3 (.plain rfl) rfl rfl) | apply Trace.pu [_] (.loadLoc1 ty3 (.plain rfl) rfl rfl) | apply Trace.pu [] (.loadRp1 ty3 (.plain rfl) rfl) | apply Trace.pu [_] (.loadCol1 ty3 (.plain rfl) rfl rfl rfl (fun _ => by omega))
                    apply Trace.pu [] (.move (.plain rfl))
                    apply Trace.pu [] (.move (.plain rfl))
                    first | apply Trace.pu [] (.indexRows el22 (.plain rfl) (.plain rfl) (fun _ => ⟨by omega, by omega⟩)) | apply Trace.pu [] (.indexOwn el22 (.plain rfl) (.plain rfl) (fun _ => ⟨by omega, by omega⟩)) | apply Trace.pu [] (.indexSl el22 (.plain rfl) (.plain rfl) (fun _ => ⟨by omega, by omega⟩))
                    first | apply Trace.pu [_] (.loadLoc1D ty3 (.plain rfl) rfl rfl) | apply Trace.pu [_] (.loadLoc1 ty3 (.plain rfl) rfl rfl) | apply Trace.pu [] (.loadRp1 ty3 (.plain rfl) rfl) | apply Trace.pu [_] (.loadCol1 ty3 (.plain rfl) rfl rfl rfl (fun _ => by omega))
                    apply Trace.cu (callArgs0 (.cons (.plain rfl) (.cons (.plain rfl) (.cons (.plain rfl) (.cons (.plain rfl) (.cons (.plain rfl) (.cons (.plain rfl) (.cons (.plain rfl) .nil)))))))) (earD hok hdl hal (seqd_ear hok hq hj.1 hjl)) en19
                    exact .nil _
                  · rfl
                  · exact keepOK_of hk hn rfl
                  refine WPA.cond rfl (fun hc9 => ?_) (fun hc9 => ?_)
                  · cases hc9
                  · apply WPA.skip
                    apply WPA.region
                    · apply Trace.pu [] (.move (.plain rfl))
                      apply Trace.pu [] (.arith (.plain rfl) (.plain rfl) rfl (fun _ => bd64 (by omega)))
                      apply Trace.pu [] (.assign (.plain rfl))
                      exact .nil _
                    · exact keepOK_of hk hn rfl
                    refine ⟨j + 1, ⟨by omega, by omega⟩, by omega, ?_⟩
                    exact (St.le_cons rfl (St.le_cons rfl (St.le_cons rfl (St.le_cons rfl (St.le_cons rfl (St.le_cons rfl (St.le_cons rfl (St.le_cons (slI (by omega)) (St.le_cons rfl (St.le_nil _))))))))))
                · apply WPA.exit
                  apply WPA.region
                  · apply Trace.pu [] (.arith (.plain rfl) (.plain rfl) rfl (fun _ => bd64 (by omega)))
                    apply Trace.pu [] (.move (.plain rfl))
                    exact .nil _
                  · exact keepOK_of hk hn rfl
                  refine ⟨i + 1, by omega, by omega, ?_⟩
                  exact (St.le_cons rfl (St.le_cons rfl (St.le_cons rfl (St.le_cons rfl (St.le_cons rfl (St.le_cons (slI (by omega)) (St.le_cons rfl (St.le_nil _))))))))
              · apply WPA.exit
                apply WPA.seq
                apply WPA.region
                · apply Trace.pu [] (.assign (.plain rfl))
                  exact .nil _
                · exact keepOK_of hk hn rfl
                apply WPA.ret
                refine ⟨.inr rfl, ⟨_, (.cons (.tmp rfl) .nil), ?_⟩, by simp [St.get]⟩
                rfl
      · have hE : g.seqE dl = ([], 211) := by
          unfold Gr.seqE
          rw [if_neg (fun e => e hC), if_neg (by rw [hB]; decide), hso]
        apply WPA.region
        · first | apply Trace.pu [_] (.loadAllD ty25 (.plain rfl) rfl (by simp)) | apply Trace.pu [_] (.loadLocD ty25 (.plain rfl) rfl (fun _ => by simp)) | apply Trace.pu [_] (.loadLoc ty25 (.plain rfl) rfl (fun _ => Nat.le_of_ble_eq_true rfl)) | apply Trace.pu [] (.loadRp ty25 (.plain rfl) (fun _ => by decide)) | apply Trace.pu [] (.loadRp ty25 (.plain rfl) (fun _ => Nat.le_of_ble_eq_true rfl)) | apply Trace.pu [_] (.loadCol ty25 (.plain rfl) rfl rfl (fun _ => by decide) (fun _ => by omega)) | apply Trace.pu [_] (.loadArr ty25 (.plain rfl) rfl)
          apply Trace.pu [] (.move (.plain rfl))
          apply Trace.ct (callArgs0 (.cons (.plain rfl) (.cons (.plain rfl) .nil))) (seN hz hd hE) en13
          apply Trace.pu [] (.move (.plain rfl))
          apply Trace.pu [] (.extract (.plain rfl) rfl)
          apply Trace.pu [] (.extract (.plain rfl) rfl)
          apply Trace.pu [] (.assign (.plain rfl))
          apply Trace.pu [] (.assign (.plain rfl))
          exact .nil _
        · exact keepOK_of hk hn rfl
        apply WPA.seq
        apply WPA.seq
        apply WPA.region
        · apply Trace.pu [] (.move (.plain rfl))
          apply Trace.pu [] (.cmp (.plain rfl) (.plain rfl) rfl)
          exact .nil _
        · exact keepOK_of hk hn rfl
        refine WPA.cond rfl (fun hc10 => ?_) (fun hc10 => ?_)
        · apply WPA.seq
          apply WPA.region
          · apply Trace.pu [] (.move (.plain rfl))
            apply Trace.pu [] (.cmp (.plain rfl) (.plain rfl) rfl)
            apply Trace.pu [] (.move (.plain rfl))
            apply Trace.pg [] rfl (.move (.plain rfl))
            apply Trace.pg [] rfl (.len rfl Try.underlying22 (.gd rfl (fun h => h)) rfl)
            apply Trace.pg [] rfl (.cmp (.gd rfl (fun h => h)) (.plain rfl) rfl)
            apply Trace.pu [] (.pick (.plain rfl) (.gd rfl (by simp)) (.plain rfl))
            apply Trace.pu [] (.assign (.plain rfl))
            exact .nil _
          · exact keepOK_of hk hn rfl
          apply WPA.ret
          refine ⟨.inr rfl, ⟨_, (.cons (.tmp rfl) .nil), ?_⟩, by simp [St.get]⟩
          rfl
        · cases hc10

end Go.Proofs.Ytglokdfdogmmhaa

