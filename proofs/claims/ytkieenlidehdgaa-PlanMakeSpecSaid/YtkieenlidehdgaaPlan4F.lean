/- Sizes of graphs; sets of nodes. -/
import Derived.Test.YtkieenlidehdgaaPlan3F
import Derived.Test.YtkieenlidehdgaaNil
namespace Go.Proofs.Ytkieenlidehdgaa
open Go
set_option linter.unusedVariables false
set_option linter.unusedSimpArgs false
set_option maxRecDepth 10000

def Gr.lsum (g : Gr) (i : Nat) : Int := sm i fun j => max 0 (g.lat.getD j 0)
theorem lsum_bd {g : Gr} {i : Nat} (h : ∀ j, j < i → g.lat.getD j 0 ≤ 4096) : 0 ≤ g.lsum i ∧ g.lsum i ≤ (i : Int) * 4096 := by
  refine ⟨sm_nonneg fun j _ => by omega, ?_⟩
  have := sm_le (m := i) (f := fun j => max 0 (g.lat.getD j 0)) (g := fun _ => 4096) fun j hj => by have := h j hj; omega
  rwa [sm_const] at this
def Gr.some (g : Gr) : Bool := (List.range (min g.lat.length 41)).all (fun j => decide (g.lat.getD j 0 ≤ 4096)) && (decide (g.lat.length ≤ 40) && decide (g.es.length ≤ 100) && decide (g.lsum (min g.lat.length 41) ≤ 20000))
theorem Gr.some_small {g : Gr} (h : g.some = true) : g.lat.length ≤ 40 ∧ g.es.length ≤ 100 := by
  simp only [Gr.some, Bool.and_eq_true, decide_eq_true_eq] at h
  exact h.2.1
def Gr.few (g : Gr) : Bool := (List.range (min g.lat.length 8)).all (fun j => decide (g.lat.getD j 0 ≤ 6)) && ((List.range (min g.es.length 14)).all (fun j => decide ((g.ed j).d ≤ 12)) && (decide (g.lat.length ≤ 8) && decide (g.es.length ≤ 14)))
theorem wrapI {x : Int} (h : -9223372036854775808 ≤ x ∧ x ≤ 9223372036854775807) : IntKind.i64.wrap x = x := IntKind.wrap_in _ _ (bd64 h)
theorem wrapU {x : Int} (h : 0 ≤ x ∧ x ≤ 18446744073709551615) : IntKind.u64.wrap x = x := IntKind.wrap_in .u64 _ ⟨by show (0 : Int) ≤ x; omega, by show x ≤ (18446744073709551615 : Int); omega⟩
/-- Is a node in a set? -/
def inS (s v : Nat) : Bool := decide (s / 2 ^ v % 2 = 1)
theorem shrN (u v : Nat) (hv : v ≤ 64) : ((u : Nat) : Int).fdiv (2 ^ (min (((v : Nat) : Int).toNat) IntKind.i64.bits)) = ((u / 2 ^ v : Nat) : Int) := by
  have e : min (((v : Nat) : Int).toNat) IntKind.i64.bits = v := by show min _ 64 = v; rw [Int.toNat_natCast]; omega
  rw [e, Int.fdiv_eq_ediv_of_nonneg _ (Int.le_of_lt (Int.pow_pos (by decide)))]
  norm_cast
theorem andI (u : Nat) (hu : u < 4611686018427387904) : IntKind.i64.wrap ((BitVec.ofInt IntKind.i64.bits (u : Int) &&& BitVec.ofInt IntKind.i64.bits 1).toNat : Int) = ((u % 2 : Nat) : Int) := by
  have e1 : (BitVec.ofInt IntKind.i64.bits (u : Int)).toNat = u := by
    simp [IntKind.bits]; omega
  have e2 : (BitVec.ofInt IntKind.i64.bits 1).toNat = 1 := by rfl
  rw [BitVec.toNat_and, e1, e2, Nat.and_one_is_mod]
  exact wrapI (by omega)
def sizeTo (s i : Nat) : Nat := ((List.range i).filter (inS s)).length
theorem sizeTo_succ (s i : Nat) : sizeTo s (i + 1) = sizeTo s i + if inS s i then 1 else 0 := by
  simp only [sizeTo, List.range_succ, List.filter_append, List.length_append]
  by_cases h : inS s i = true <;> simp [h]
theorem sizeTo_le (s i : Nat) : sizeTo s i ≤ i := by
  have := List.length_filter_le (inS s) (List.range i)
  simpa [sizeTo] using this
/-- Positions, the nodes of a set below i raised. -/
def raiseTo (l : List Int) (s i : Nat) : List Int := (List.range l.length).map fun k => l.getD k 0 + if k < i ∧ inS s k = true then 1 else 0
abbrev raiseS (l : List Int) (s : Nat) : List Int := raiseTo l s l.length
theorem raiseTo_length (l : List Int) (s i : Nat) : (raiseTo l s i).length = l.length := by simp [raiseTo]
theorem raiseTo_at (l : List Int) (s i : Nat) {k : Nat} (hk : k < l.length) : (raiseTo l s i).getD k 0 = l.getD k 0 + if k < i ∧ inS s k = true then 1 else 0 := by
  rw [getD_lt _ _ (by rw [raiseTo_length]; exact hk)]
  simp only [raiseTo, List.getElem_map, List.getElem_range]
theorem raiseTo_zero (l : List Int) (s : Nat) : raiseTo l s 0 = l := ext_fn (raiseTo_length l s 0) fun k hk => by
  rw [raiseTo_length] at hk
  show (raiseTo l s 0).getD k 0 = l.getD k 0
  rw [raiseTo_at l s 0 hk, if_neg (by omega)]; omega
theorem raiseTo_in {l : List Int} {s i : Nat} (hi : i < l.length) (h : inS s i = true) : raiseTo l s (i + 1) = (raiseTo l s i).set i ((raiseTo l s i).getD i 0 + 1) := by
  refine ext_fn (by simp [raiseTo_length]) fun k hk => ?_
  rw [raiseTo_length] at hk
  show (raiseTo l s (i + 1)).getD k 0 = ((raiseTo l s i).set i ((raiseTo l s i).getD i 0 + 1)).getD k 0
  rw [getD_set (by rw [raiseTo_length]; exact hi), raiseTo_at l s (i + 1) hk, raiseTo_at l s i hk, raiseTo_at l s i hi]
  by_cases e : i = k
  · subst e; simp [h]
  · rw [if_neg e]
    by_cases h2 : k < i ∧ inS s k = true
    · rw [if_pos h2, if_pos ⟨by omega, h2.2⟩]
    · rw [if_neg h2, if_neg (fun h3 => h2 ⟨by omega, h3.2⟩)]
theorem raiseTo_out {l : List Int} {s i : Nat} (h : ¬ inS s i = true) : raiseTo l s (i + 1) = raiseTo l s i := by
  simp only [raiseTo]
  refine List.map_congr_left fun k _ => ?_
  by_cases h2 : k < i ∧ inS s k = true
  · rw [if_pos h2, if_pos ⟨by omega, h2.2⟩]
  · rw [if_neg h2, if_neg (fun h3 => h2 ⟨by rcases Nat.lt_succ_iff_lt_or_eq.1 h3.1 with h4 | h4; exact h4; exact absurd (h4 ▸ h3.2) h, h3.2⟩)]
/-- soundpost/soundpostref23.Some -/
theorem spec11 (g : Gr) (hz : g.Sz) : FnSpec Try.prog 11 [g.av] [] (bv g.some) [] [] := by
  have hn1 := hz.n
  have hn2 := hz.m
  refine fnSpec_of (rs := [.tmp 2]) Try.func11 rfl rfl (Nat.le_of_ble_eq_true rfl) (by simp [St.get]) fun E hk hn => ?_
  apply WPA.seq
  apply WPA.region
  · first | apply Trace.boxD 1 [] (.plain rfl) rfl rfl | apply Trace.box 1 [] (.plain rfl) rfl rfl rfl
    apply Trace.pu [] (.assign (.plain rfl))
    exact .nil _
  · exact keepOK_of hk hn rfl
  apply WPA.seq
  apply WPA.region
  · apply Trace.pu [] (.assign (.plain rfl))
    exact .nil _
  · exact keepOK_of hk hn rfl
  apply WPA.seq
  apply WPA.seq
  apply WPA.region
  · apply Trace.pu [] (.assign (.plain rfl))
    exact .nil _
  · exact keepOK_of hk hn rfl
  apply WPA.block
  refine WPA.loop (σ := Nat) (fun i => [(sl 1, .av (.loc 1 0)), (sl 3, .av (iv .i64 (g.lsum i))), (sl 4, .av (iv .i64 (i))), (bk 1, .blk (.data g.ds))]) (fun i => i ≤ g.lat.length ∧ i ≤ 41 ∧ ∀ j, j < i → g.lat.getD j 0 ≤ 4096) (fun i => 41 - i) 0
    (St.le_cons rfl (St.le_cons rfl (St.le_cons rfl (St.le_cons rfl (St.le_nil _))))) ⟨Nat.zero_le _, by omega, fun j h => by omega⟩ fun i hi => ?_
  apply WPA.seq
  apply WPA.seq
  apply WPA.region
  · apply Trace.pu [] (.move (.plain rfl))
    apply Trace.pu [] (.fieldAddr fl25_0 (.plain rfl) rfl)
    first | apply Trace.pu [_] (.loadLoc1D ty22 (.plain rfl) rfl rfl) | apply Trace.pu [_] (.loadLoc1 ty22 (.plain rfl) rfl rfl) | apply Trace.pu [] (.loadRp1 ty22 (.plain rfl) rfl) | apply Trace.pu [_] (.loadCol1 ty22 (.plain rfl) rfl rfl rfl (fun _ => by omega))
    apply Trace.pu [] (.len rfl Try.underlying22 (.plain rfl) rfl)
    apply Trace.pu [] (.cmp (.plain rfl) (.plain rfl) rfl)
    apply Trace.pu [] (.move (.plain rfl))
    apply Trace.pg [] rfl (.move (.plain rfl))
    apply Trace.pg [] rfl (.cmp (.gd rfl (fun h => h)) (.plain rfl) rfl)
    apply Trace.pu [] (.pick (.plain rfl) (.gd rfl (by simp)) (.plain rfl))
    exact .nil _
  · exact keepOK_of hk hn rfl
  refine WPA.cond rfl (fun hc1 => ?_) (fun hc1 => ?_)
  · have hlt : i < g.lat.length ∧ i ≤ 40 := by
      have h9 : (bif decide ((i : Int) < g.lat.length) then decide ((i : Int) ≤ 40) else false) = true := hc1
      rw [bif_and, Bool.and_eq_true, decide_eq_true_eq, decide_eq_true_eq] at h9
      omega
    obtain ⟨hlt, hlt40⟩ := hlt
    have hlb := lsum_bd hi.2.2
    apply WPA.skip
    apply WPA.seq
    apply WPA.block
    apply WPA.seq
    apply WPA.region
    · apply Trace.pu [] (.move (.plain rfl))
      apply Trace.pu [] (.fieldAddr fl25_0 (.plain rfl) rfl)
      first | apply Trace.pu [_] (.loadLoc1D ty22 (.plain rfl) rfl rfl) | apply Trace.pu [_] (.loadLoc1 ty22 (.plain rfl) rfl rfl) | apply Trace.pu [] (.loadRp1 ty22 (.plain rfl) rfl) | apply Trace.pu [_] (.loadCol1 ty22 (.plain rfl) rfl rfl rfl (fun _ => by omega))
      apply Trace.pu [] (.move (.plain rfl))
      first | apply Trace.pu [] (.indexRows el22 (.plain rfl) (.plain rfl) (fun _ => ⟨by omega, by omega⟩)) | apply Trace.pu [] (.indexOwn el22 (.plain rfl) (.plain rfl) (fun _ => ⟨by omega, by omega⟩)) | apply Trace.pu [] (.indexSl el22 (.plain rfl) (.plain rfl) (fun _ => ⟨by omega, by omega⟩))
      first | apply Trace.pu [_] (.loadLoc1D ty3 (.plain rfl) rfl rfl) | apply Trace.pu [_] (.loadLoc1 ty3 (.plain rfl) rfl rfl) | apply Trace.pu [] (.loadRp1 ty3 (.plain rfl) rfl) | apply Trace.pu [_] (.loadCol1 ty3 (.plain rfl) rfl rfl rfl (fun _ => by omega))
      apply Trace.pu [] (.max2 (.plain rfl) (.plain rfl))
      apply Trace.pu [] (.arithW (.plain rfl) (.plain rfl) rfl)
      apply Trace.pu [] (.assign (.plain rfl))
      exact .nil _
    · exact keepOK_of hk hn rfl
    apply WPA.seq
    apply WPA.region
    · apply Trace.pu [] (.fieldAddr fl25_0 (.plain rfl) rfl)
      first | apply Trace.pu [_] (.loadLoc1D ty22 (.plain rfl) rfl rfl) | apply Trace.pu [_] (.loadLoc1 ty22 (.plain rfl) rfl rfl) | apply Trace.pu [] (.loadRp1 ty22 (.plain rfl) rfl) | apply Trace.pu [_] (.loadCol1 ty22 (.plain rfl) rfl rfl rfl (fun _ => by omega))
      apply Trace.pu [] (.move (.plain rfl))
      first | apply Trace.pu [] (.indexRows el22 (.plain rfl) (.plain rfl) (fun _ => ⟨by omega, by omega⟩)) | apply Trace.pu [] (.indexOwn el22 (.plain rfl) (.plain rfl) (fun _ => ⟨by omega, by omega⟩)) | apply Trace.pu [] (.indexSl el22 (.plain rfl) (.plain rfl) (fun _ => ⟨by omega, by omega⟩))
      first | apply Trace.pu [_] (.loadLoc1D ty3 (.plain rfl) rfl rfl) | apply Trace.pu [_] (.loadLoc1 ty3 (.plain rfl) rfl rfl) | apply Trace.pu [] (.loadRp1 ty3 (.plain rfl) rfl) | apply Trace.pu [_] (.loadCol1 ty3 (.plain rfl) rfl rfl rfl (fun _ => by omega))
      apply Trace.pu [] (.cmp (.plain rfl) (.plain rfl) rfl)
      exact .nil _
    · exact keepOK_of hk hn rfl
    refine WPA.cond rfl (fun hc2 => ?_) (fun hc2 => ?_)
    · apply WPA.seq
      apply WPA.region
      · apply Trace.pu [] (.assign (.plain rfl))
        exact .nil _
      · exact keepOK_of hk hn rfl
      apply WPA.ret
      refine ⟨.inr rfl, ⟨_, (.cons (.tmp rfl) .nil), ?_⟩, by simp [St.get]⟩
      have hx : ¬ (g.lat.getD i 0 ≤ 4096) := by have : (4096 : Int) < g.lat.getD i 0 := by simpa using hc2
                                                omega
      have e : g.some = false := by
        unfold Gr.some
        rw [Bool.and_eq_false_iff]
        left
        rw [List.all_eq_false]
        exact ⟨i, by simp; omega, by simpa using hx⟩
      rw [e]; rfl
    · apply WPA.skip
      apply WPA.region
      · apply Trace.pu [] (.move (.plain rfl))
        apply Trace.pu [] (.arith (.plain rfl) (.plain rfl) rfl (fun _ => bd64 (by omega)))
        apply Trace.pu [] (.assign (.plain rfl))
        exact .nil _
      · exact keepOK_of hk hn rfl
      have hx : g.lat.getD i 0 ≤ 4096 := by simpa using hc2
      have hx2 : g.lat.getD ((i : Nat) : Int).toNat 0 ≤ 4096 := hx
      exact ⟨i + 1, ⟨by omega, by omega, fun j h => by
        by_cases hj : j = i
        · rw [hj]; exact hx
        · exact hi.2.2 j (by omega)⟩, by omega, St.le_cons rfl (St.le_cons (slI (by rw [wrapI (by omega)]; rfl)) (St.le_cons (slI (by omega)) (St.le_cons rfl (St.le_nil _))))⟩
  · apply WPA.exit
    apply WPA.seq
    apply WPA.region
    · apply Trace.pu [] (.fieldAddr fl25_0 (.plain rfl) rfl)
      first | apply Trace.pu [_] (.loadLoc1D ty22 (.plain rfl) rfl rfl) | apply Trace.pu [_] (.loadLoc1 ty22 (.plain rfl) rfl rfl) | apply Trace.pu [] (.loadRp1 ty22 (.plain rfl) rfl) | apply Trace.pu [_] (.loadCol1 ty22 (.plain rfl) rfl rfl rfl (fun _ => by omega))
      apply Trace.pu [] (.len rfl Try.underlying22 (.plain rfl) rfl)
      apply Trace.pu [] (.cmp (.plain rfl) (.plain rfl) rfl)
      apply Trace.pu [] (.move (.plain rfl))
      apply Trace.pg [] rfl (.fieldAddr fl25_1 (.plain rfl) rfl)
      first | apply Trace.pg [_] rfl (.loadLoc1D ty23 (.gd rfl (fun h => h)) rfl rfl) | apply Trace.pg [_] rfl (.loadLoc1 ty23 (.gd rfl (fun h => h)) rfl rfl) | apply Trace.pg [] rfl (.loadRp1 ty23 (.gd rfl (fun h => h)) rfl) | apply Trace.pg [_] rfl (.loadCol1 ty23 (.gd rfl (fun h => h)) rfl rfl rfl (fun _ => by omega))
      apply Trace.pg [] rfl (.len rfl Try.underlying23 (.gd rfl (fun h => h)) rfl)
      apply Trace.pg [] rfl (.cmp (.gd rfl (fun h => h)) (.plain rfl) rfl)
      apply Trace.pu [] (.pick (.plain rfl) (.gd rfl (by simp)) (.plain rfl))
      apply Trace.pu [] (.move (.plain rfl))
      apply Trace.pg [] rfl (.move (.plain rfl))
      apply Trace.pg [] rfl (.cmp (.gd rfl (fun h => h)) (.plain rfl) rfl)
      apply Trace.pu [] (.pick (.plain rfl) (.gd rfl (by simp)) (.plain rfl))
      apply Trace.pu [] (.assign (.plain rfl))
      exact .nil _
    · exact keepOK_of hk hn rfl
    apply WPA.ret
    refine ⟨.inr rfl, ⟨_, (.cons (.tmp rfl) .nil), ?_⟩, by simp [St.get]⟩
    have hK : min g.lat.length 41 = i := by
      have h9 : (bif decide ((i : Int) < g.lat.length) then decide ((i : Int) ≤ 40) else false) = false := hc1
      rw [bif_and, Bool.and_eq_false_iff, decide_eq_false_iff_not, decide_eq_false_iff_not] at h9
      omega
    have e : g.some = (bif (bif decide ((g.lat.length : Int) ≤ 40) then decide ((g.es.length : Int) ≤ 100) else false) then decide (g.lsum i ≤ 20000) else false) := by
      unfold Gr.some
      rw [hK, bif_and, bif_and, List.all_eq_true.2 fun j hj => by simpa using hi.2.2 j (by simpa using hj), Bool.true_and]
      congr 1
      congr 1
      · exact decide_eq_decide.2 (by omega)
      · exact decide_eq_decide.2 (by omega)
    rw [e]; rfl

/-- soundpost/soundpostref23.Few -/
theorem spec18 (g : Gr) (hz : g.Sz) : FnSpec Try.prog 18 [g.av] [] (bv g.few) [] [] := by
  have hn1 := hz.n
  have hn2 := hz.m
  refine fnSpec_of (rs := [.tmp 2]) Try.func18 rfl rfl (Nat.le_of_ble_eq_true rfl) (by simp [St.get]) fun E hk hn => ?_
  apply WPA.seq
  apply WPA.region
  · first | apply Trace.boxD 1 [] (.plain rfl) rfl rfl | apply Trace.box 1 [] (.plain rfl) rfl rfl rfl
    apply Trace.pu [] (.assign (.plain rfl))
    exact .nil _
  · exact keepOK_of hk hn rfl
  apply WPA.seq
  apply WPA.seq
  apply WPA.region
  · apply Trace.pu [] (.assign (.plain rfl))
    exact .nil _
  · exact keepOK_of hk hn rfl
  apply WPA.block
  refine WPA.loop (σ := Nat) (fun i => [(sl 1, .av (.loc 1 0)), (sl 3, .av (iv .i64 (i))), (bk 1, .blk (.data g.ds))]) (fun i => i ≤ g.lat.length ∧ i ≤ 8 ∧ ∀ j, j < i → g.lat.getD j 0 ≤ 6) (fun i => 8 - i) 0
    (St.le_cons rfl (St.le_cons rfl (St.le_cons rfl (St.le_nil _)))) ⟨Nat.zero_le _, by omega, fun j h => by omega⟩ fun i hi => ?_
  apply WPA.seq
  apply WPA.seq
  apply WPA.region
  · apply Trace.pu [] (.move (.plain rfl))
    apply Trace.pu [] (.fieldAddr fl25_0 (.plain rfl) rfl)
    first | apply Trace.pu [_] (.loadLoc1D ty22 (.plain rfl) rfl rfl) | apply Trace.pu [_] (.loadLoc1 ty22 (.plain rfl) rfl rfl) | apply Trace.pu [] (.loadRp1 ty22 (.plain rfl) rfl) | apply Trace.pu [_] (.loadCol1 ty22 (.plain rfl) rfl rfl rfl (fun _ => by omega))
    apply Trace.pu [] (.len rfl Try.underlying22 (.plain rfl) rfl)
    apply Trace.pu [] (.cmp (.plain rfl) (.plain rfl) rfl)
    apply Trace.pu [] (.move (.plain rfl))
    apply Trace.pg [] rfl (.move (.plain rfl))
    apply Trace.pg [] rfl (.cmp (.gd rfl (fun h => h)) (.plain rfl) rfl)
    apply Trace.pu [] (.pick (.plain rfl) (.gd rfl (by simp)) (.plain rfl))
    exact .nil _
  · exact keepOK_of hk hn rfl
  refine WPA.cond rfl (fun hc1 => ?_) (fun hc1 => ?_)
  · obtain ⟨hlt, hlt8⟩ : i < g.lat.length ∧ i < 8 := by
      have h9 : (bif decide ((i : Int) < g.lat.length) then decide ((i : Int) < 8) else false) = true := hc1
      rw [bif_and, Bool.and_eq_true, decide_eq_true_eq, decide_eq_true_eq] at h9
      omega
    apply WPA.skip
    apply WPA.seq
    apply WPA.block
    apply WPA.seq
    apply WPA.region
    · apply Trace.pu [] (.fieldAddr fl25_0 (.plain rfl) rfl)
      first | apply Trace.pu [_] (.loadLoc1D ty22 (.plain rfl) rfl rfl) | apply Trace.pu [_] (.loadLoc1 ty22 (.plain rfl) rfl rfl) | apply Trace.pu [] (.loadRp1 ty22 (.plain rfl) rfl) | apply Trace.pu [_] (.loadCol1 ty22 (.plain rfl) rfl rfl rfl (fun _ => by omega))
      apply Trace.pu [] (.move (.plain rfl))
      first | apply Trace.pu [] (.indexRows el22 (.plain rfl) (.plain rfl) (fun _ => ⟨by omega, by omega⟩)) | apply Trace.pu [] (.indexOwn el22 (.plain rfl) (.plain rfl) (fun _ => ⟨by omega, by omega⟩)) | apply Trace.pu [] (.indexSl el22 (.plain rfl) (.plain rfl) (fun _ => ⟨by omega, by omega⟩))
      first | apply Trace.pu [_] (.loadLoc1D ty3 (.plain rfl) rfl rfl) | apply Trace.pu [_] (.loadLoc1 ty3 (.plain rfl) rfl rfl) | apply Trace.pu [] (.loadRp1 ty3 (.plain rfl) rfl) | apply Trace.pu [_] (.loadCol1 ty3 (.plain rfl) rfl rfl rfl (fun _ => by omega))
      apply Trace.pu [] (.cmp (.plain rfl) (.plain rfl) rfl)
      exact .nil _
    · exact keepOK_of hk hn rfl
    refine WPA.cond rfl (fun hc2 => ?_) (fun hc2 => ?_)
    · apply WPA.seq
      apply WPA.region
      · apply Trace.pu [] (.assign (.plain rfl))
        exact .nil _
      · exact keepOK_of hk hn rfl
      apply WPA.ret
      refine ⟨.inr rfl, ⟨_, (.cons (.tmp rfl) .nil), ?_⟩, by simp [St.get]⟩
      have hx : ¬ (g.lat.getD i 0 ≤ 6) := by have : (6 : Int) < g.lat.getD i 0 := by simpa using hc2
                                             omega
      have e : g.few = false := by
        unfold Gr.few
        rw [Bool.and_eq_false_iff]
        left
        rw [List.all_eq_false]
        exact ⟨i, by simp; omega, by simpa using hx⟩
      rw [e]; rfl
    · apply WPA.skip
      apply WPA.region
      · apply Trace.pu [] (.move (.plain rfl))
        apply Trace.pu [] (.arith (.plain rfl) (.plain rfl) rfl (fun _ => bd64 (by omega)))
        apply Trace.pu [] (.assign (.plain rfl))
        exact .nil _
      · exact keepOK_of hk hn rfl
      have hx : g.lat.getD i 0 ≤ 6 := by simpa using hc2
      exact ⟨i + 1, ⟨by omega, by omega, fun j h => by
        by_cases hj : j = i
        · rw [hj]; exact hx
        · exact hi.2.2 j (by omega)⟩, by omega, St.le_cons rfl (St.le_cons (slI (by omega)) (St.le_cons rfl (St.le_nil _)))⟩
  · have hK : min (g.lat.length) 8 = i := by
      have h9 : (bif decide ((i : Int) < g.lat.length) then decide ((i : Int) < 8) else false) = false := hc1
      rw [bif_and, Bool.and_eq_false_iff, decide_eq_false_iff_not, decide_eq_false_iff_not] at h9
      omega
    have hA : (List.range (min g.lat.length 8)).all (fun j => decide (g.lat.getD j 0 ≤ 6)) = true := by
      rw [hK]; exact List.all_eq_true.2 fun j hj => by simpa using hi.2.2 j (by simpa using hj)
    apply WPA.exit
    apply WPA.seq
    apply WPA.seq
    apply WPA.region
    · apply Trace.pu [] (.assign (.plain rfl))
      exact .nil _
    · exact keepOK_of hk hn rfl
    apply WPA.block
    refine WPA.loop (σ := Nat) (fun i => [(sl 1, .av (.loc 1 0)), (sl 4, .av (iv .i64 (i))), (bk 1, .blk (.data g.ds))]) (fun i => i ≤ g.es.length ∧ i ≤ 14 ∧ ∀ j, j < i → (g.ed j).d ≤ 12) (fun i => 14 - i) 0
      (St.le_cons rfl (St.le_cons rfl (St.le_cons rfl (St.le_nil _)))) ⟨Nat.zero_le _, by omega, fun j h => by omega⟩ fun i hi => ?_
    apply WPA.seq
    apply WPA.seq
    apply WPA.region
    · apply Trace.pu [] (.move (.plain rfl))
      apply Trace.pu [] (.fieldAddr fl25_1 (.plain rfl) rfl)
      first | apply Trace.pu [_] (.loadLoc1D ty23 (.plain rfl) rfl rfl) | apply Trace.pu [_] (.loadLoc1 ty23 (.plain rfl) rfl rfl) | apply Trace.pu [] (.loadRp1 ty23 (.plain rfl) rfl) | apply Trace.pu [_] (.loadCol1 ty23 (.plain rfl) rfl rfl rfl (fun _ => by omega))
      apply Trace.pu [] (.len rfl Try.underlying23 (.plain rfl) rfl)
      apply Trace.pu [] (.cmp (.plain rfl) (.plain rfl) rfl)
      apply Trace.pu [] (.move (.plain rfl))
      apply Trace.pg [] rfl (.move (.plain rfl))
      apply Trace.pg [] rfl (.cmp (.gd rfl (fun h => h)) (.plain rfl) rfl)
      apply Trace.pu [] (.pick (.plain rfl) (.gd rfl (by simp)) (.plain rfl))
      exact .nil _
    · exact keepOK_of hk hn rfl
    refine WPA.cond rfl (fun hc3 => ?_) (fun hc3 => ?_)
    · obtain ⟨hlt, hlt8⟩ : i < g.es.length ∧ i < 14 := by
        have h9 : (bif decide ((i : Int) < g.es.length) then decide ((i : Int) < 14) else false) = true := hc3
        rw [bif_and, Bool.and_eq_true, decide_eq_true_eq, decide_eq_true_eq] at h9
        omega
      apply WPA.skip
      apply WPA.seq
      apply WPA.block
      apply WPA.seq
      apply WPA.region
      · apply Trace.pu [] (.fieldAddr fl25_1 (.plain rfl) rfl)
        first | apply Trace.pu [_] (.loadLoc1D ty23 (.plain rfl) rfl rfl) | apply Trace.pu [_] (.loadLoc1 ty23 (.plain rfl) rfl rfl) | apply Trace.pu [] (.loadRp1 ty23 (.plain rfl) rfl) | apply Trace.pu [_] (.loadCol1 ty23 (.plain rfl) rfl rfl rfl (fun _ => by omega))
        apply Trace.pu [] (.move (.plain rfl))
        first | apply Trace.pu [] (.indexRows el23 (.plain rfl) (.plain rfl) (fun _ => ⟨by omega, by omega⟩)) | apply Trace.pu [] (.indexOwn el23 (.plain rfl) (.plain rfl) (fun _ => ⟨by omega, by omega⟩)) | apply Trace.pu [] (.indexSl el23 (.plain rfl) (.plain rfl) (fun _ => ⟨by omega, by omega⟩))
        apply Trace.pu [] (.fieldAddr fl44_3 (.plain rfl) rfl)
        first | apply Trace.pu [_] (.loadLoc1D ty3 (.plain rfl) rfl rfl) | apply Trace.pu [_] (.loadLoc1 ty3 (.plain rfl) rfl rfl) | apply Trace.pu [] (.loadRp1 ty3 (.plain rfl) rfl) | apply Trace.pu [_] (.loadCol1 ty3 (.plain rfl) rfl rfl rfl (fun _ => by omega))
        apply Trace.pu [] (.cmp (.plain rfl) (.plain rfl) rfl)
        exact .nil _
      · exact keepOK_of hk hn rfl
      refine WPA.cond rfl (fun hc4 => ?_) (fun hc4 => ?_)
      · apply WPA.seq
        apply WPA.region
        · apply Trace.pu [] (.assign (.plain rfl))
          exact .nil _
        · exact keepOK_of hk hn rfl
        apply WPA.ret
        refine ⟨.inr rfl, ⟨_, (.cons (.tmp rfl) .nil), ?_⟩, by simp [St.get]⟩
        have hx : ¬ ((g.ed i).d ≤ 12) := by have : (12 : Int) < (g.es.getD i default).d := by simpa using hc4
                                            have h8 : (g.ed i).d = (g.es.getD i default).d := rfl
                                            omega
        have e : g.few = false := by
          unfold Gr.few
          rw [Bool.and_eq_false_iff]
          right
          rw [Bool.and_eq_false_iff]
          left
          rw [List.all_eq_false]
          exact ⟨i, by simp; omega, by simpa using hx⟩
        rw [e]; rfl
      · apply WPA.skip
        apply WPA.region
        · apply Trace.pu [] (.move (.plain rfl))
          apply Trace.pu [] (.arith (.plain rfl) (.plain rfl) rfl (fun _ => bd64 (by omega)))
          apply Trace.pu [] (.assign (.plain rfl))
          exact .nil _
        · exact keepOK_of hk hn rfl
        have hx : (g.ed i).d ≤ 12 := by simpa using hc4
        exact ⟨i + 1, ⟨by omega, by omega, fun j h => by
          by_cases hj : j = i
          · rw [hj]; exact hx
          · exact hi.2.2 j (by omega)⟩, by omega, St.le_cons rfl (St.le_cons (slI (by omega)) (St.le_cons rfl (St.le_nil _)))⟩
    · apply WPA.exit
      apply WPA.seq
      apply WPA.region
      · apply Trace.pu [] (.fieldAddr fl25_0 (.plain rfl) rfl)
        first | apply Trace.pu [_] (.loadLoc1D ty22 (.plain rfl) rfl rfl) | apply Trace.pu [_] (.loadLoc1 ty22 (.plain rfl) rfl rfl) | apply Trace.pu [] (.loadRp1 ty22 (.plain rfl) rfl) | apply Trace.pu [_] (.loadCol1 ty22 (.plain rfl) rfl rfl rfl (fun _ => by omega))
        apply Trace.pu [] (.len rfl Try.underlying22 (.plain rfl) rfl)
        apply Trace.pu [] (.cmp (.plain rfl) (.plain rfl) rfl)
        apply Trace.pu [] (.move (.plain rfl))
        apply Trace.pg [] rfl (.fieldAddr fl25_1 (.plain rfl) rfl)
        first | apply Trace.pg [_] rfl (.loadLoc1D ty23 (.gd rfl (fun h => h)) rfl rfl) | apply Trace.pg [_] rfl (.loadLoc1 ty23 (.gd rfl (fun h => h)) rfl rfl) | apply Trace.pg [] rfl (.loadRp1 ty23 (.gd rfl (fun h => h)) rfl) | apply Trace.pg [_] rfl (.loadCol1 ty23 (.gd rfl (fun h => h)) rfl rfl rfl (fun _ => by omega))
        apply Trace.pg [] rfl (.len rfl Try.underlying23 (.gd rfl (fun h => h)) rfl)
        apply Trace.pg [] rfl (.cmp (.gd rfl (fun h => h)) (.plain rfl) rfl)
        apply Trace.pu [] (.pick (.plain rfl) (.gd rfl (by simp)) (.plain rfl))
        apply Trace.pu [] (.assign (.plain rfl))
        exact .nil _
      · exact keepOK_of hk hn rfl
      apply WPA.ret
      refine ⟨.inr rfl, ⟨_, (.cons (.tmp rfl) .nil), ?_⟩, by simp [St.get]⟩
      have hK2 : min (g.es.length) 14 = i := by
        have h9 : (bif decide ((i : Int) < g.es.length) then decide ((i : Int) < 14) else false) = false := hc3
        rw [bif_and, Bool.and_eq_false_iff, decide_eq_false_iff_not, decide_eq_false_iff_not] at h9
        omega
      have e : g.few = (bif decide ((g.lat.length : Int) ≤ 8) then decide ((g.es.length : Int) ≤ 14) else false) := by
        unfold Gr.few
        rw [hA, hK2, bif_and, List.all_eq_true.2 fun j hj => by simpa using hi.2.2 j (by simpa using hj), Bool.true_and, Bool.true_and]
        congr 1
        · exact decide_eq_decide.2 (by omega)
        · exact decide_eq_decide.2 (by omega)
      rw [e]; rfl

/-- soundpost/soundpostref23.in -/
theorem spec44 (s v : Nat) (hs : s ≤ 1048576) (hv : v ≤ 64) : FnSpec Try.prog 44 [iv .i64 s, iv .i64 v] [] (bv (inS s v)) [] [] := by
  refine fnSpec_of (rs := [.tmp 4]) Try.func44 rfl rfl (Nat.le_of_ble_eq_true rfl) (by simp [St.get]) fun E hk hn => ?_
  apply WPA.seq
  apply WPA.region
  · apply Trace.pu [] (.assign (.plain rfl))
    exact .nil _
  · exact keepOK_of hk hn rfl
  apply WPA.seq
  apply WPA.region
  · apply Trace.pu [] (.move (.plain rfl))
    apply Trace.pu [] (.move (.plain rfl))
    apply Trace.pu [] ((Pure.conv Try.underlying3 Try.underlying73 (.plain rfl)).to (y := iv .u64 (v : Int)) (by rw [wrapU (by omega)]))
    apply Trace.pu [] ((Pure.shr (.plain rfl) (.plain rfl) (fun _ => by omega)).to (y := iv .i64 ((s / 2 ^ v : Nat) : Int)) (by rw [shrN s v hv]))
    apply Trace.pu [] ((Pure.bits (.plain rfl) (.plain rfl) rfl).to (y := iv .i64 ((s / 2 ^ v % 2 : Nat) : Int)) (by rw [andI _ (Nat.lt_of_le_of_lt (Nat.div_le_self _ _) (by omega))]))
    apply Trace.pu [] (.cmp (.plain rfl) (.plain rfl) rfl)
    apply Trace.pu [] (.assign (.plain rfl))
    exact .nil _
  · exact keepOK_of hk hn rfl
  apply WPA.ret
  refine ⟨.inr rfl, ⟨_, (.cons (.tmp rfl) .nil), ?_⟩, by simp [St.get]⟩
  have e : inS s v = decide (((s / 2 ^ v % 2 : Nat) : Int) = 1) := decide_eq_decide.2 (by omega)
  rw [e]; rfl

/-- soundpost/soundpostref23.size -/
theorem spec43 (s n : Nat) (hs : s ≤ 1048576) (hn8 : n ≤ 8) : FnSpec Try.prog 43 [iv .i64 s, iv .i64 n] [] (iv .i64 (sizeTo s n)) [] [] := by
  refine fnSpec_of (rs := [.tmp 4]) Try.func43 rfl rfl (Nat.le_of_ble_eq_true rfl) (by simp [St.get]) fun E hk hn => ?_
  apply WPA.seq
  apply WPA.region
  · apply Trace.pu [] (.assign (.plain rfl))
    exact .nil _
  · exact keepOK_of hk hn rfl
  apply WPA.seq
  apply WPA.region
  · apply Trace.pu [] (.assign (.plain rfl))
    exact .nil _
  · exact keepOK_of hk hn rfl
  apply WPA.seq
  apply WPA.seq
  apply WPA.region
  · apply Trace.pu [] (.assign (.plain rfl))
    exact .nil _
  · exact keepOK_of hk hn rfl
  apply WPA.block
  refine WPA.loop (σ := Nat) (fun i => [(sl 0, .av (iv .i64 (s))), (sl 1, .av (iv .i64 (n))), (sl 5, .av (iv .i64 (sizeTo s i))), (sl 6, .av (iv .i64 (i)))]) (fun i => i ≤ n) (fun i => n - i) 0
    (St.le_cons rfl (St.le_cons rfl (St.le_cons rfl (St.le_cons rfl (St.le_nil _))))) (Nat.zero_le _) fun i hi => ?_
  apply WPA.seq
  apply WPA.seq
  apply WPA.region
  · apply Trace.pu [] (.move (.plain rfl))
    apply Trace.pu [] (.move (.plain rfl))
    apply Trace.pu [] (.cmp (.plain rfl) (.plain rfl) rfl)
    exact .nil _
  · exact keepOK_of hk hn rfl
  refine WPA.cond rfl (fun hc1 => ?_) (fun hc1 => ?_)
  · have hlt : i < n := by simpa using hc1
    have hsl := sizeTo_le s i
    have hss := sizeTo_succ s i
    apply WPA.skip
    apply WPA.seq
    apply WPA.block
    apply WPA.seq
    apply WPA.region
    · apply Trace.pu [] (.move (.plain rfl))
      apply Trace.pu [] (.move (.plain rfl))
      apply Trace.cu (callArgs0 (.cons (.plain rfl) (.cons (.plain rfl) .nil))) (spec44 s i hs (by omega)) en44
      exact .nil _
    · exact keepOK_of hk hn rfl
    refine WPA.cond rfl (fun hc2 => ?_) (fun hc2 => ?_)
    · rw [if_pos hc2] at hss
      apply WPA.region
      · apply Trace.pu [] (.move (.plain rfl))
        apply Trace.pu [] (.arith (.plain rfl) (.plain rfl) rfl (fun _ => bd64 (by omega)))
        apply Trace.pu [] (.assign (.plain rfl))
        exact .nil _
      · exact keepOK_of hk hn rfl
      apply WPA.region
      · apply Trace.pu [] (.move (.plain rfl))
        apply Trace.pu [] (.arith (.plain rfl) (.plain rfl) rfl (fun _ => bd64 (by omega)))
        apply Trace.pu [] (.assign (.plain rfl))
        exact .nil _
      · exact keepOK_of hk hn rfl
      exact ⟨i + 1, by omega, by omega, St.le_cons rfl (St.le_cons rfl (St.le_cons (slI (by omega)) (St.le_cons (slI (by omega)) (St.le_nil _))))⟩
    · rw [if_neg (by rw [hc2]; decide)] at hss
      apply WPA.skip
      apply WPA.region
      · apply Trace.pu [] (.move (.plain rfl))
        apply Trace.pu [] (.arith (.plain rfl) (.plain rfl) rfl (fun _ => bd64 (by omega)))
        apply Trace.pu [] (.assign (.plain rfl))
        exact .nil _
      · exact keepOK_of hk hn rfl
      exact ⟨i + 1, by omega, by omega, St.le_cons rfl (St.le_cons rfl (St.le_cons (slI (by omega)) (St.le_cons (slI (by omega)) (St.le_nil _))))⟩
  · apply WPA.exit
    apply WPA.seq
    apply WPA.region
    · apply Trace.pu [] (.move (.plain rfl))
      apply Trace.pu [] (.assign (.plain rfl))
      exact .nil _
    · exact keepOK_of hk hn rfl
    apply WPA.ret
    refine ⟨.inr rfl, ⟨_, (.cons (.tmp rfl) .nil), ?_⟩, by simp [St.get]⟩
    have hin : i = n := by
      have : ¬ ((i : Int) < n) := by simpa using hc1
      omega
    rw [hin]; rfl

/-- soundpost/soundpostref23.raised -/
theorem spec35 (l : List Int) (s : Nat) (hs : s ≤ 1048576) (hl : l.length ≤ 64) (hb : ∀ v, -1152921504606846976 ≤ l.getD v 0 ∧ l.getD v 0 ≤ 1152921504606846976) : FnSpec Try.prog 35 [.d (intsD l), iv .i64 s] [] (.d (intsD (raiseS l s))) [] [] := by
  refine fnSpec_of (rs := [.tmp 4]) Try.func35 rfl rfl (Nat.le_of_ble_eq_true rfl) (by simp [St.get]) fun E hk hn => ?_
  apply WPA.seq
  apply WPA.region
  · apply Trace.pu [] (.assign (.plain rfl))
    exact .nil _
  · exact keepOK_of hk hn rfl
  apply WPA.seq
  apply WPA.region
  · apply Trace.buildSlice 7 [] so22 zo3 rfl (by decide) (by decide) (.nil _ _) rfl rfl rfl
    apply Trace.pu [] (.move (.plain rfl))
    apply Trace.append 9 [bk 7, sl 7] ap22 kd22 (by decide) (.own (.plain rfl) rfl) (.rows (cs := [.ints .i64 l]) (.plain rfl) rfl (by simp [Col.len]) (by intros; rfl)) (Col.ones rfl) (labs_ok rfl) (by omega) (by omega) rfl rfl
    apply Trace.pu [] (.assign (.plain rfl))
    exact .nil _
  · exact keepOK_of hk hn rfl
  apply WPA.seq
  apply WPA.seq
  refine WPA.ghost (Ghost.dsInts (l := 9) (k := .i64) (xs := l) rfl (by rfl)) ?_
  apply WPA.region
  · apply Trace.pu [] (.assign (.plain rfl))
    exact .nil _
  · exact keepOK_of hk hn rfl
  apply WPA.block
  refine WPA.loop (σ := Nat) (fun i => [(sl 1, .av (iv .i64 (s))), (sl 5, .av (.own 9 l.length)), (sl 6, .av (iv .i64 (i))), (bk 9, .blk (.app 1 l.length [.ints .i64 (raiseTo l s i)]))]) (fun i => i ≤ l.length) (fun i => l.length - i) 0
    (St.le_cons rfl (St.le_cons (by rw [show 0 + l.length = l.length by omega]; rfl) (St.le_cons rfl (St.le_cons (by rw [raiseTo_zero, show 0 + l.length = l.length by omega]; rfl) (St.le_nil _))))) (Nat.zero_le _) fun i hi => ?_
  apply WPA.seq
  apply WPA.seq
  apply WPA.region
  · apply Trace.pu [] (.move (.plain rfl))
    apply Trace.pu [] (.move (.plain rfl))
    apply Trace.pu [] (.len rfl Try.underlying22 (.plain rfl) rfl)
    apply Trace.pu [] (.cmp (.plain rfl) (.plain rfl) rfl)
    exact .nil _
  · exact keepOK_of hk hn rfl
  refine WPA.cond rfl (fun hc1 => ?_) (fun hc1 => ?_)
  · have hlt : i < l.length := by simpa using hc1
    have hrl := raiseTo_length l s i
    have hra := raiseTo_at l s i hlt
    rw [if_neg (by omega)] at hra
    have hbi := hb i
    have hra2 : (raiseTo l s i).getD ((i : Nat) : Int).toNat 0 = l.getD i 0 + 0 := hra
    apply WPA.skip
    apply WPA.seq
    apply WPA.block
    apply WPA.seq
    apply WPA.region
    · apply Trace.pu [] (.move (.plain rfl))
      apply Trace.pu [] (.move (.plain rfl))
      apply Trace.cu (callArgs0 (.cons (.plain rfl) (.cons (.plain rfl) .nil))) (spec44 s i hs (by omega)) en44
      exact .nil _
    · exact keepOK_of hk hn rfl
    refine WPA.cond rfl (fun hc2 => ?_) (fun hc2 => ?_)
    · apply WPA.region
      · apply Trace.pu [] (.move (.plain rfl))
        apply Trace.pu [] (.move (.plain rfl))
        first | apply Trace.pu [] (.indexRows el22 (.plain rfl) (.plain rfl) (fun _ => ⟨by omega, by omega⟩)) | apply Trace.pu [] (.indexOwn el22 (.plain rfl) (.plain rfl) (fun _ => ⟨by omega, by omega⟩)) | apply Trace.pu [] (.indexSl el22 (.plain rfl) (.plain rfl) (fun _ => ⟨by omega, by omega⟩))
        first | apply Trace.pu [_] (.loadLoc1D ty3 (.plain rfl) rfl rfl) | apply Trace.pu [_] (.loadLoc1 ty3 (.plain rfl) rfl rfl) | apply Trace.pu [] (.loadRp1 ty3 (.plain rfl) rfl) | apply Trace.pu [_] (.loadCol1 ty3 (.plain rfl) rfl rfl rfl (fun _ => by omega))
        apply Trace.pu [] (.arith (.plain rfl) (.plain rfl) rfl (fun _ => bd64 (by omega)))
        first | apply Trace.pu [] (.indexRows el22 (.plain rfl) (.plain rfl) (fun _ => ⟨by omega, by omega⟩)) | apply Trace.pu [] (.indexOwn el22 (.plain rfl) (.plain rfl) (fun _ => ⟨by omega, by omega⟩)) | apply Trace.pu [] (.indexSl el22 (.plain rfl) (.plain rfl) (fun _ => ⟨by omega, by omega⟩))
        first | apply Trace.storeD ty3 (.plain rfl) (.plain rfl) rfl rfl rfl (by simp [AV.oneB, single]) (Nat.le_of_ble_eq_true rfl) rfl | apply Trace.storeDA ty3 (.plain rfl) (.plain rfl) rfl rfl rfl (by simp [AV.oneB, single]) (Nat.le_of_ble_eq_true rfl) rfl | apply Trace.storeLoc ty3 (.plain rfl) (.plain rfl) rfl rfl rfl (by simp [AV.oneB, single]) (Nat.le_of_ble_eq_true rfl) rfl | apply Trace.storeRow ty3 (.plain rfl) (.plain rfl) rfl rfl rfl rfl (by decide) (by simp [AV.oneB, single]) rfl (by omega)
        exact .nil _
      · exact keepOK_of hk hn rfl
      apply WPA.region
      · apply Trace.pu [] (.move (.plain rfl))
        apply Trace.pu [] (.arith (.plain rfl) (.plain rfl) rfl (fun _ => bd64 (by omega)))
        apply Trace.pu [] (.assign (.plain rfl))
        exact .nil _
      · exact keepOK_of hk hn rfl
      first
        | exact ⟨i + 1, by omega, by omega, St.le_cons rfl (St.le_cons rfl (St.le_cons (slI (by omega)) (St.le_cons (app_eq64 (raiseTo_in hlt hc2).symm) (St.le_nil _))))⟩
        | exact ⟨i + 1, by omega, by omega, St.le_cons rfl (St.le_cons rfl (St.le_cons (slI (by omega)) (St.le_cons (app_eq64 (raiseTo_out (by rw [hc2]; decide)).symm) (St.le_nil _))))⟩
    · apply WPA.skip
      apply WPA.region
      · apply Trace.pu [] (.move (.plain rfl))
        apply Trace.pu [] (.arith (.plain rfl) (.plain rfl) rfl (fun _ => bd64 (by omega)))
        apply Trace.pu [] (.assign (.plain rfl))
        exact .nil _
      · exact keepOK_of hk hn rfl
      first
        | exact ⟨i + 1, by omega, by omega, St.le_cons rfl (St.le_cons rfl (St.le_cons (slI (by omega)) (St.le_cons (app_eq64 (raiseTo_in hlt hc2).symm) (St.le_nil _))))⟩
        | exact ⟨i + 1, by omega, by omega, St.le_cons rfl (St.le_cons rfl (St.le_cons (slI (by omega)) (St.le_cons (app_eq64 (raiseTo_out (by rw [hc2]; decide)).symm) (St.le_nil _))))⟩
  · apply WPA.exit
    apply WPA.seq
    have hin : i = l.length := by
      have : ¬ ((i : Int) < l.length) := by simpa using hc1
      omega
    subst hin
    refine WPA.ghost (Ghost.freezeAs (t := 5) (l := 9) (g := fun k => [Col.at (.ints .i64 (raiseS l s)) k]) rfl rfl (fun k hk => rfl)) ?_
    apply WPA.region
    · apply Trace.pu [] (.move (.plain rfl))
      apply Trace.pu [] (.assign (.plain rfl))
      exact .nil _
    · exact keepOK_of hk hn rfl
    apply WPA.ret
    refine ⟨.inr rfl, ⟨_, (.cons (.tmp rfl) .nil), ?_⟩, by simp [St.get]⟩
    simp only [intsD, rowsD, raiseTo_length]
    rfl

end Go.Proofs.Ytkieenlidehdgaa

