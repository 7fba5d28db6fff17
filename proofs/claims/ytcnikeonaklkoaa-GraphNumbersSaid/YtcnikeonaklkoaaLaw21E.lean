/- GraphReached. -/
import Derived.Test.YtcnikeonaklkoaaLaw21D
namespace Go.Proofs.Ytcnikeonaklkoaa
open Go
set_option linter.unusedVariables false
set_option linter.unusedSimpArgs false
set_option maxRecDepth 10000
set_option maxHeartbeats 2000000

/-- Marks at the first i numbers of a list. -/
def putTo (n : Nat) (A : List Int) : Nat → List Bool
  | 0 => List.replicate n false
  | i + 1 => (putTo n A i).set (A.getD i 0).toNat true
theorem putTo_len (n : Nat) (A : List Int) : ∀ i, (putTo n A i).length = n
  | 0 => by simp [putTo]
  | i + 1 => by simp [putTo, putTo_len n A i]
theorem seen_put {n : Nat} {A : List Int} {w : Nat} : ∀ i, i ≤ A.length → (∀ x ∈ A, x.toNat < n) → (seen (putTo n A i) w = true ↔ ∃ j, j < i ∧ (A.getD j 0).toNat = w)
  | 0, _, _ => by
    constructor
    · intro h
      have : seen (List.replicate n false) w = false := by simp [seen, List.getD_eq_getElem?_getD, List.getElem?_replicate]; split <;> rfl
      rw [show putTo n A 0 = List.replicate n false from rfl, this] at h; cases h
    · rintro ⟨j, hj, _⟩; omega
  | i + 1, hi, hA => by
    have ih := seen_put (w := w) i (by omega) hA
    have hx : (A.getD i 0).toNat < (putTo n A i).length := by rw [putTo_len]; exact hA _ (by rw [getD_lt _ _ (by omega)]; exact List.getElem_mem _)
    show seen ((putTo n A i).set (A.getD i 0).toNat true) w = true ↔ _
    rw [seen_set hx]
    by_cases e : (A.getD i 0).toNat = w
    · rw [if_pos e]; exact ⟨fun _ => ⟨i, by omega, e⟩, fun _ => rfl⟩
    · rw [if_neg e, ih]
      constructor
      · rintro ⟨j, h1, h2⟩; exact ⟨j, by omega, h2⟩
      · rintro ⟨j, h1, h2⟩
        exact ⟨j, by
          by_cases hj : j = i
          · subst hj; exact absurd h2 e
          · omega, h2⟩
theorem reachL_at {g : Gr} (h : g.OK) {v : Nat} (hv : v < g.lat.length) {i : Nat} (hi : i < (g.reachL v).length) : ∃ w : Nat, (g.reachL v).getD i 0 = (w : Int) ∧ w < g.lat.length ∧ g.Way v w := by
  obtain ⟨w, h1, h2⟩ := (mem_reachL h hv (x := (g.reachL v).getD i 0)).1 (by rw [getD_lt _ _ hi]; exact List.getElem_mem _)
  exact ⟨w, h1, h2.lt h hv, h2⟩
theorem put_reach {g : Gr} (h : g.OK) {v : Nat} (hv : v < g.lat.length) (w : Nat) : seen (putTo g.lat.length (g.reachL v) (g.reachL v).length) w = true ↔ g.Way v w := by
  rw [seen_put _ (Nat.le_refl _) fun x hx => by
    obtain ⟨u, rfl, hu⟩ := (mem_reachL h hv).1 hx
    simpa using hu.lt h hv]
  constructor
  · rintro ⟨j, hj, hw⟩
    obtain ⟨u, h1, _, h3⟩ := reachL_at h hv hj
    rw [h1] at hw
    have : u = w := by omega
    exact this ▸ h3
  · intro hw
    obtain ⟨j, hj, he⟩ := List.mem_iff_getElem.1 ((mem_reachL h hv (x := (w : Int))).2 ⟨w, rfl, hw⟩)
    exact ⟨j, hj, by rw [getD_lt _ _ hj, he]; simp⟩
theorem reachL_up {g : Gr} {v i : Nat} (hi : i + 1 < (g.reachL v).length) : (g.reachL v).getD i 0 < (g.reachL v).getD (i + 1) 0 := by
  have hp : (g.reachL v).Pairwise (· < ·) := markL_pair _ _
  rw [getD_lt _ _ (by omega : i < (g.reachL v).length), getD_lt _ _ hi]
  exact List.pairwise_iff_getElem.1 hp i (i + 1) (by omega) hi (by omega)
theorem reachP_ok {g : Gr} {v : Int} (h : (g.reachP v).2 = 0) : ∃ u : Nat, v = (u : Int) ∧ u < g.lat.length ∧ g.formed = 0 ∧ g.reachP v = (g.reachL u, 0) := by
  unfold Gr.reachP at *
  split at h
  · rename_i h1; exact absurd h h1
  · rename_i h1
    rw [if_neg h1]
    split at h
    · rename_i h2
      rw [if_pos h2]
      exact ⟨v.toNat, by omega, by omega, Classical.not_not.1 h1, rfl⟩
    · cases h
theorem reachP_err {g : Gr} {v : Int} (h : (g.reachP v).2 ≠ 0) : (g.reachP v).1 = [] := by
  unfold Gr.reachP at *
  split
  · rfl
  · rename_i h1
    rw [if_neg h1] at h
    split
    · rename_i h2; rw [if_pos h2] at h; exact absurd rfl h
    · rfl
theorem reachP_at {g : Gr} (h : g.formed = 0) {u : Nat} (hu : u < g.lat.length) : g.reachP (u : Int) = (g.reachL u, 0) := by
  unfold Gr.reachP
  rw [if_neg (by rw [h]; decide), if_pos (by omega)]
  rfl
/-- soundpost/soundpostlaw21.GraphReached -/
theorem spec9 (g : Gr) (hz : g.Sz) (v : Int) : FnSpec Try.prog 9 [g.av, iv .i64 v] [] (bv true) [] [] := by
  have hn1 := hz.n
  have hn2 := hz.m
  refine fnSpec_of (rs := [.tmp 4]) Try.func9 rfl rfl (Nat.le_of_ble_eq_true rfl) (by simp [St.get]) fun E hk hn => ?_
  apply WPA.seq
  apply WPA.region
  · first | apply Trace.boxD 2 [] (.plain rfl) rfl rfl | apply Trace.box 2 [] (.plain rfl) rfl rfl rfl
    apply Trace.pu [] (.assign (.plain rfl))
    exact .nil _
  · exact keepOK_of hk hn rfl
  apply WPA.seq
  apply WPA.seq
  apply WPA.region
  · apply Trace.cu (callArgs0 .nil) spec10 en10
    apply Trace.pu [] (.not (.plain rfl))
    exact .nil _
  · exact keepOK_of hk hn rfl
  refine WPA.cond rfl (fun hc1 => ?_) (fun hc1 => ?_)
  · cases hc1
  · apply WPA.skip
    apply WPA.seq
    apply WPA.seq
    apply WPA.region
    · apply Trace.pu [] (.fieldAddr fl25_0 (.plain rfl) rfl)
      first | apply Trace.pu [_] (.loadLoc1D ty22 (.plain rfl) rfl rfl) | apply Trace.pu [_] (.loadLoc1 ty22 (.plain rfl) rfl rfl) | apply Trace.pu [] (.loadRp1 ty22 (.plain rfl) rfl) | apply Trace.pu [_] (.loadCol1 ty22 (.plain rfl) rfl rfl rfl (fun _ => by omega))
      apply Trace.pu [] (.len rfl Try.underlying22 (.plain rfl) rfl)
      apply Trace.pu [] (.cmp (.plain rfl) (.plain rfl) rfl)
      apply Trace.pu [] (.move (.plain rfl))
      apply Trace.pg [] rfl (.fieldAddr fl25_1 (.plain rfl) rfl)
      first | apply Trace.pg [_] rfl (.loadLoc1D ty23 (.gd rfl (fun h => h)) rfl rfl) | apply Trace.pg [_] rfl (.loadLoc1 ty23 (.gd rfl (fun h => h)) rfl rfl) | apply Trace.pg [] rfl (.loadRp1 ty23 (.gd rfl (fun h => h)) rfl) | apply Trace.pg [_] rfl (.loadCol1 ty23 (.gd rfl (fun h => h)) rfl rfl rfl (fun _ => by omega))
      apply Trace.pg [] rfl (.len rfl Try.underlying23 (.gd rfl (fun h => h)) rfl)
      apply Trace.pg [] rfl (.cmp (.gd rfl (fun h => h)) (.plain rfl) rfl)
      apply Trace.pu [] (.pick (.plain rfl) (.plain rfl) (.gd rfl (by simp)))
      exact .nil _
    · exact keepOK_of hk hn rfl
    refine WPA.cond rfl (fun hc2 => ?_) (fun hc2 => ?_)
    · apply WPA.seq
      apply WPA.region
      · apply Trace.pu [] (.assign (.plain rfl))
        exact .nil _
      · exact keepOK_of hk hn rfl
      apply WPA.ret
      refine ⟨.inr rfl, ⟨_, (.cons (.tmp rfl) .nil), ?_⟩, by simp [St.get]⟩
      rfl
    · apply WPA.skip
      apply WPA.seq
      apply WPA.region
      · first | apply Trace.pu [_] (.loadAllD ty25 (.plain rfl) rfl (by simp)) | apply Trace.pu [_] (.loadLocD ty25 (.plain rfl) rfl (fun _ => by simp)) | apply Trace.pu [_] (.loadLoc ty25 (.plain rfl) rfl (fun _ => Nat.le_of_ble_eq_true rfl)) | apply Trace.pu [] (.loadRp ty25 (.plain rfl) (fun _ => by decide)) | apply Trace.pu [] (.loadRp ty25 (.plain rfl) (fun _ => Nat.le_of_ble_eq_true rfl)) | apply Trace.pu [_] (.loadCol ty25 (.plain rfl) rfl rfl (fun _ => by decide) (fun _ => by omega)) | apply Trace.pu [_] (.loadArr ty25 (.plain rfl) rfl)
        apply Trace.pu [] (.move (.plain rfl))
        apply Trace.ct (callArgs0 (.cons (.plain rfl) (.cons (.plain rfl) .nil))) (reN hz (v := v) (l := (g.reachP v).1) (c := (g.reachP v).2) rfl) en14
        apply Trace.pu [] (.move (.plain rfl))
        apply Trace.pu [] (.extract (.plain rfl) rfl)
        apply Trace.pu [] (.extract (.plain rfl) rfl)
        apply Trace.pu [] (.assign (.plain rfl))
        apply Trace.pu [] (.assign (.plain rfl))
        exact .nil _
      · exact keepOK_of hk hn rfl
      apply WPA.seq
      apply WPA.seq
      apply WPA.region
      · apply Trace.pu [] (.move (.plain rfl))
        apply Trace.pu [] (.cmp (.plain rfl) (.plain rfl) rfl)
        exact .nil _
      · exact keepOK_of hk hn rfl
      refine WPA.cond rfl (fun hc3 => ?_) (fun hc3 => ?_)
      · have hE : (g.reachP v).2 ≠ 0 := by
          have h9 : (!decide ((g.reachP v).2 = 0)) = true := hc3
          simpa using h9
        rw [reachP_err hE]
        apply WPA.seq
        apply WPA.region
        · apply Trace.pu [] (.move (.plain rfl))
          apply Trace.pu [] (.len rfl Try.underlying22 (.plain rfl) rfl)
          apply Trace.pu [] (.cmp (.plain rfl) (.plain rfl) rfl)
          apply Trace.pu [] (.assign (.plain rfl))
          exact .nil _
        · exact keepOK_of hk hn rfl
        apply WPA.ret
        refine ⟨.inr rfl, ⟨_, (.cons (.tmp rfl) .nil), ?_⟩, by simp [St.get]⟩
        rfl
      · have hE : (g.reachP v).2 = 0 := by
          have h9 : (!decide ((g.reachP v).2 = 0)) = false := hc3
          simpa using h9
        obtain ⟨u, rfl, hu, hfo, hrp⟩ := reachP_ok hE
        have hok := g.ok_of hfo
        have hn4 := hok.n
        have hm4 := hok.m
        have hrl : (g.reachL u).length ≤ g.lat.length := markL_len _ _
        rw [hrp]
        apply WPA.skip
        apply WPA.seq
        apply WPA.region
        · apply Trace.pu [] (.fieldAddr fl25_0 (.plain rfl) rfl)
          first | apply Trace.pu [_] (.loadLoc1D ty22 (.plain rfl) rfl rfl) | apply Trace.pu [_] (.loadLoc1 ty22 (.plain rfl) rfl rfl) | apply Trace.pu [] (.loadRp1 ty22 (.plain rfl) rfl) | apply Trace.pu [_] (.loadCol1 ty22 (.plain rfl) rfl rfl rfl (fun _ => by omega))
          apply Trace.pu [] (.len rfl Try.underlying22 (.plain rfl) rfl)
          apply Trace.makeSlice 41 [] so43 by4 zo4 rfl (by decide) (.plain rfl) (.plain rfl) ⟨by omega, by omega⟩ (by omega) (by omega) rfl rfl
          apply Trace.pu [] (.assign (.plain rfl))
          exact .nil _
        · exact keepOK_of hk hn rfl
        apply WPA.seq
        apply WPA.seq
        apply WPA.region
        · apply Trace.pu [] (.assign (.plain rfl))
          exact .nil _
        · exact keepOK_of hk hn rfl
        apply WPA.block
        refine WPA.loop (σ := Nat) (fun i => [(sl 1, .av (iv .i64 ((u : Nat)))), (sl 2, .av (.loc 2 0)), (sl 5, .av (.d (intsD (g.reachL u)))), (sl 7, .av (.own 41 g.lat.length)), (bk 2, .blk (.data g.ds)), (bk 41, .blk (.app 1 g.lat.length [.bools (putTo g.lat.length (g.reachL u) i)])), (sl 8, .av (iv .i64 (i)))]) (fun i => i ≤ (g.reachL u).length) (fun i => (g.reachL u).length - i) 0
          (St.le_cons rfl (St.le_cons rfl (St.le_cons rfl (St.le_cons rfl (St.le_cons rfl (St.le_cons rfl (St.le_cons rfl (St.le_nil _)))))))) (Nat.zero_le _) fun i hi => ?_
        apply WPA.seq
        apply WPA.seq
        apply WPA.region
        · apply Trace.pu [] (.move (.plain rfl))
          apply Trace.pu [] (.move (.plain rfl))
          apply Trace.pu [] (.len rfl Try.underlying22 (.plain rfl) rfl)
          apply Trace.pu [] (.cmp (.plain rfl) (.plain rfl) rfl)
          exact .nil _
        · exact keepOK_of hk hn rfl
        refine WPA.cond rfl (fun hc4 => ?_) (fun hc4 => ?_)
        · have hlt : i < (g.reachL u).length := by simpa using hc4
          obtain ⟨x, hx, hxn, _⟩ := reachL_at hok hu hlt
          have hx2 : (g.reachL u).getD ((i : Nat) : Int).toNat 0 = (x : Int) := hx
          have hpl := putTo_len g.lat.length (g.reachL u) i
          have hps : putTo g.lat.length (g.reachL u) (i + 1) = (putTo g.lat.length (g.reachL u) i).set ((g.reachL u).getD i 0).toNat true := rfl
          apply WPA.skip
          apply WPA.seq
          apply WPA.block
          apply WPA.seq
          apply WPA.seq
          rcases Nat.eq_zero_or_pos i with hi0 | hi0
          · apply WPA.draw mixed
            · apply Trace.pu [] (.move (.plain rfl))
              apply Trace.pu [] (.move (.plain rfl))
              first | apply Trace.pu [] (.indexRows el22 (.plain rfl) (.plain rfl) (fun _ => ⟨by omega, by omega⟩)) | apply Trace.pu [] (.indexOwn el22 (.plain rfl) (.plain rfl) (fun _ => ⟨by omega, by omega⟩)) | apply Trace.pu [] (.indexSl el22 (.plain rfl) (.plain rfl) (fun _ => ⟨by omega, by omega⟩))
              first | apply Trace.pu [_] (.loadLoc1D ty3 (.plain rfl) rfl rfl) | apply Trace.pu [_] (.loadLoc1 ty3 (.plain rfl) rfl rfl) | apply Trace.pu [] (.loadRp1 ty3 (.plain rfl) rfl) | apply Trace.pu [_] (.loadCol1 ty3 (.plain rfl) rfl rfl rfl (fun _ => by omega))
              apply Trace.pu [] ((Pure.cmp (.plain rfl) (.plain rfl) rfl).to (y := bv false) (congrArg bv (decide_eq_false (by omega))))
              apply Trace.pu [] (.move (.plain rfl))
              apply Trace.pg [] rfl (.move (.plain rfl))
              apply Trace.pg [] rfl (.move (.plain rfl))
              first | apply Trace.pg [] rfl (.indexRows el22 (.gd rfl (fun h => h)) (.gd rfl (fun h => h)) (fun _ => ⟨by omega, by omega⟩)) | apply Trace.pg [] rfl (.indexOwn el22 (.gd rfl (fun h => h)) (.gd rfl (fun h => h)) (fun _ => ⟨by omega, by omega⟩)) | apply Trace.pg [] rfl (.indexSl el22 (.gd rfl (fun h => h)) (.gd rfl (fun h => h)) (fun _ => ⟨by omega, by omega⟩))
              first | apply Trace.pg [_] rfl (.loadLoc1D ty3 (.gd rfl (fun h => h)) rfl rfl) | apply Trace.pg [_] rfl (.loadLoc1 ty3 (.gd rfl (fun h => h)) rfl rfl) | apply Trace.pg [] rfl (.loadRp1 ty3 (.gd rfl (fun h => h)) rfl) | apply Trace.pg [_] rfl (.loadCol1 ty3 (.gd rfl (fun h => h)) rfl rfl rfl (fun _ => by omega))
              apply Trace.pg [] rfl (.move (.plain rfl))
              apply Trace.pg [] rfl (.len rfl Try.underlying43 (.gd rfl (fun h => h)) rfl)
              apply Trace.pg [] rfl ((Pure.cmp (.gd rfl (fun h => h)) (.gd rfl (fun h => h)) rfl).to (y := bv false) (congrArg bv (decide_eq_false (by omega))))
              apply Trace.pu [] (.pick (.plain rfl) (.plain rfl) (.gd rfl (by simp)))
              apply Trace.pu [] (.move (.plain rfl))
              apply Trace.pg [] rfl (.move (.plain rfl))
              apply Trace.pg [] rfl ((Pure.cmp (.gd rfl (fun h => h)) (.plain rfl) rfl).to (y := bv false) (congrArg bv (decide_eq_false (by omega))))
              apply Trace.pg [] rfl (.move (.gd rfl (fun h => h)))
              apply Trace.pg [] rfl (Pure.never (x := bv true) (by intro d h; cases h))
              apply Trace.pg [] rfl (Pure.never (x := bv true) (by intro d h; cases h))
              apply Trace.pg [] rfl (Pure.never (x := bv true) (by intro d h; cases h))
              apply Trace.pg [] rfl (Pure.never (x := bv true) (by intro d h; cases h))
              apply Trace.pg [] rfl (Pure.never (x := bv true) (by intro d h; cases h))
              apply Trace.pg [] rfl (Pure.never (x := bv true) (by intro d h; cases h))
              apply Trace.pg [] rfl (Pure.never (x := bv true) (by intro d h; cases h))
              apply Trace.pg [] rfl (Pure.never (x := bv true) (by intro d h; cases h))
              apply Trace.pg [] rfl (Pure.never (x := bv true) (by intro d h; cases h))
              apply Trace.pg [] rfl (Pure.never (x := bv true) (by intro d h; cases h))
              apply Trace.pg [] rfl (.pick (.gd rfl (fun h => h)) (.gd rfl (by simp)) (.plain rfl))
              apply Trace.pu [] (.pick (.plain rfl) (.plain rfl) (.gd rfl (by simp)))
              exact .nil _
            · rfl
            · exact keepOK_of hk hn rfl
            refine WPA.cond rfl (fun hc5 => ?_) (fun hc5 => ?_)
            · cases hc5
            · apply WPA.skip
              apply WPA.region
              · apply Trace.pu [] (.move (.plain rfl))
                apply Trace.pu [] (.move (.plain rfl))
                apply Trace.pu [] (.move (.plain rfl))
                first | apply Trace.pu [] (.indexRows el22 (.plain rfl) (.plain rfl) (fun _ => ⟨by omega, by omega⟩)) | apply Trace.pu [] (.indexOwn el22 (.plain rfl) (.plain rfl) (fun _ => ⟨by omega, by omega⟩)) | apply Trace.pu [] (.indexSl el22 (.plain rfl) (.plain rfl) (fun _ => ⟨by omega, by omega⟩))
                first | apply Trace.pu [_] (.loadLoc1D ty3 (.plain rfl) rfl rfl) | apply Trace.pu [_] (.loadLoc1 ty3 (.plain rfl) rfl rfl) | apply Trace.pu [] (.loadRp1 ty3 (.plain rfl) rfl) | apply Trace.pu [_] (.loadCol1 ty3 (.plain rfl) rfl rfl rfl (fun _ => by omega))
                first | apply Trace.pu [] (.indexRows el43 (.plain rfl) (.plain rfl) (fun _ => ⟨by omega, by omega⟩)) | apply Trace.pu [] (.indexOwn el43 (.plain rfl) (.plain rfl) (fun _ => ⟨by omega, by omega⟩)) | apply Trace.pu [] (.indexSl el43 (.plain rfl) (.plain rfl) (fun _ => ⟨by omega, by omega⟩))
                first | apply Trace.storeD ty4 (.plain rfl) (.plain rfl) rfl rfl rfl (by simp [AV.oneB, single]) (Nat.le_of_ble_eq_true rfl) rfl | apply Trace.storeDA ty4 (.plain rfl) (.plain rfl) rfl rfl rfl (by simp [AV.oneB, single]) (Nat.le_of_ble_eq_true rfl) rfl | apply Trace.storeLoc ty4 (.plain rfl) (.plain rfl) rfl rfl rfl (by simp [AV.oneB, single]) (Nat.le_of_ble_eq_true rfl) rfl | apply Trace.storeRow ty4 (.plain rfl) (.plain rfl) rfl rfl rfl rfl (by decide) (by simp [AV.oneB, single]) rfl (by omega)
                exact .nil _
              · exact keepOK_of hk hn rfl
              apply WPA.region
              · apply Trace.pu [] (.move (.plain rfl))
                apply Trace.pu [] (.arith (.plain rfl) (.plain rfl) rfl (fun _ => bd64 (by omega)))
                apply Trace.pu [] (.assign (.plain rfl))
                exact .nil _
              · exact keepOK_of hk hn rfl
              exact ⟨i + 1, by omega, by omega, St.le_cons rfl (St.le_cons rfl (St.le_cons rfl (St.le_cons rfl (St.le_cons rfl (St.le_cons rfl (St.le_cons (slI (by omega)) (St.le_nil _)))))))⟩
          · have hup := reachL_up (g := g) (v := u) (i := i - 1) (by omega)
            rw [show i - 1 + 1 = i by omega] at hup
            have hup2 : (g.reachL u).getD ((i : Int) - 1).toNat 0 < (g.reachL u).getD ((i : Nat) : Int).toNat 0 := by
              rw [show ((i : Int) - 1).toNat = i - 1 by omega]; exact hup
            apply WPA.draw mixed
            · apply Trace.pu [] (.move (.plain rfl))
              apply Trace.pu [] (.move (.plain rfl))
              first | apply Trace.pu [] (.indexRows el22 (.plain rfl) (.plain rfl) (fun _ => ⟨by omega, by omega⟩)) | apply Trace.pu [] (.indexOwn el22 (.plain rfl) (.plain rfl) (fun _ => ⟨by omega, by omega⟩)) | apply Trace.pu [] (.indexSl el22 (.plain rfl) (.plain rfl) (fun _ => ⟨by omega, by omega⟩))
              first | apply Trace.pu [_] (.loadLoc1D ty3 (.plain rfl) rfl rfl) | apply Trace.pu [_] (.loadLoc1 ty3 (.plain rfl) rfl rfl) | apply Trace.pu [] (.loadRp1 ty3 (.plain rfl) rfl) | apply Trace.pu [_] (.loadCol1 ty3 (.plain rfl) rfl rfl rfl (fun _ => by omega))
              apply Trace.pu [] ((Pure.cmp (.plain rfl) (.plain rfl) rfl).to (y := bv false) (congrArg bv (decide_eq_false (by omega))))
              apply Trace.pu [] (.move (.plain rfl))
              apply Trace.pg [] rfl (.move (.plain rfl))
              apply Trace.pg [] rfl (.move (.plain rfl))
              first | apply Trace.pg [] rfl (.indexRows el22 (.gd rfl (fun h => h)) (.gd rfl (fun h => h)) (fun _ => ⟨by omega, by omega⟩)) | apply Trace.pg [] rfl (.indexOwn el22 (.gd rfl (fun h => h)) (.gd rfl (fun h => h)) (fun _ => ⟨by omega, by omega⟩)) | apply Trace.pg [] rfl (.indexSl el22 (.gd rfl (fun h => h)) (.gd rfl (fun h => h)) (fun _ => ⟨by omega, by omega⟩))
              first | apply Trace.pg [_] rfl (.loadLoc1D ty3 (.gd rfl (fun h => h)) rfl rfl) | apply Trace.pg [_] rfl (.loadLoc1 ty3 (.gd rfl (fun h => h)) rfl rfl) | apply Trace.pg [] rfl (.loadRp1 ty3 (.gd rfl (fun h => h)) rfl) | apply Trace.pg [_] rfl (.loadCol1 ty3 (.gd rfl (fun h => h)) rfl rfl rfl (fun _ => by omega))
              apply Trace.pg [] rfl (.move (.plain rfl))
              apply Trace.pg [] rfl (.len rfl Try.underlying43 (.gd rfl (fun h => h)) rfl)
              apply Trace.pg [] rfl ((Pure.cmp (.gd rfl (fun h => h)) (.gd rfl (fun h => h)) rfl).to (y := bv false) (congrArg bv (decide_eq_false (by omega))))
              apply Trace.pu [] (.pick (.plain rfl) (.plain rfl) (.gd rfl (by simp)))
              apply Trace.pu [] (.move (.plain rfl))
              apply Trace.pg [] rfl (.move (.plain rfl))
              apply Trace.pg [] rfl ((Pure.cmp (.gd rfl (fun h => h)) (.plain rfl) rfl).to (y := bv true) (congrArg bv (decide_eq_true (by omega))))
              apply Trace.pg [] rfl (.move (.gd rfl (fun h => h)))
              apply Trace.pg [] rfl (.move (.plain rfl))
              apply Trace.pg [] rfl (.move (.plain rfl))
              first | apply Trace.pg [] rfl (.indexRows el22 (.gd rfl (fun h => h)) (.gd rfl (fun h => h)) (fun _ => ⟨by omega, by omega⟩)) | apply Trace.pg [] rfl (.indexOwn el22 (.gd rfl (fun h => h)) (.gd rfl (fun h => h)) (fun _ => ⟨by omega, by omega⟩)) | apply Trace.pg [] rfl (.indexSl el22 (.gd rfl (fun h => h)) (.gd rfl (fun h => h)) (fun _ => ⟨by omega, by omega⟩))
              first | apply Trace.pg [_] rfl (.loadLoc1D ty3 (.gd rfl (fun h => h)) rfl rfl) | apply Trace.pg [_] rfl (.loadLoc1 ty3 (.gd rfl (fun h => h)) rfl rfl) | apply Trace.pg [] rfl (.loadRp1 ty3 (.gd rfl (fun h => h)) rfl) | apply Trace.pg [_] rfl (.loadCol1 ty3 (.gd rfl (fun h => h)) rfl rfl rfl (fun _ => by omega))
              apply Trace.pg [] rfl (.move (.plain rfl))
              apply Trace.pg [] rfl (.move (.plain rfl))
              apply Trace.pg [] rfl (.arith (.gd rfl (fun h => h)) (.plain rfl) rfl (fun _ => bd64 (by omega)))
              apply Trace.pg [] rfl (.indexRows el22 (.gd rfl (fun h => h)) (.gd rfl (fun h => h)) (fun _ => ⟨by omega, by omega⟩))
              first | apply Trace.pg [_] rfl (.loadLoc1D ty3 (.gd rfl (fun h => h)) rfl rfl) | apply Trace.pg [_] rfl (.loadLoc1 ty3 (.gd rfl (fun h => h)) rfl rfl) | apply Trace.pg [] rfl (.loadRp1 ty3 (.gd rfl (fun h => h)) rfl) | apply Trace.pg [_] rfl (.loadCol1 ty3 (.gd rfl (fun h => h)) rfl rfl rfl (fun _ => by omega))
              apply Trace.pg [] rfl ((Pure.cmp (.gd rfl (fun h => h)) (.gd rfl (fun h => h)) rfl).to (y := bv false) (congrArg bv (decide_eq_false (by omega))))
              apply Trace.pg [] rfl (.pick (.gd rfl (fun h => h)) (.gd rfl (by simp)) (.plain rfl))
              apply Trace.pu [] (.pick (.plain rfl) (.plain rfl) (.gd rfl (by simp)))
              exact .nil _
            · rfl
            · exact keepOK_of hk hn rfl
            refine WPA.cond rfl (fun hc6 => ?_) (fun hc6 => ?_)
            · cases hc6
            · apply WPA.skip
              apply WPA.region
              · apply Trace.pu [] (.move (.plain rfl))
                apply Trace.pu [] (.move (.plain rfl))
                apply Trace.pu [] (.move (.plain rfl))
                first | apply Trace.pu [] (.indexRows el22 (.plain rfl) (.plain rfl) (fun _ => ⟨by omega, by omega⟩)) | apply Trace.pu [] (.indexOwn el22 (.plain rfl) (.plain rfl) (fun _ => ⟨by omega, by omega⟩)) | apply Trace.pu [] (.indexSl el22 (.plain rfl) (.plain rfl) (fun _ => ⟨by omega, by omega⟩))
                first | apply Trace.pu [_] (.loadLoc1D ty3 (.plain rfl) rfl rfl) | apply Trace.pu [_] (.loadLoc1 ty3 (.plain rfl) rfl rfl) | apply Trace.pu [] (.loadRp1 ty3 (.plain rfl) rfl) | apply Trace.pu [_] (.loadCol1 ty3 (.plain rfl) rfl rfl rfl (fun _ => by omega))
                first | apply Trace.pu [] (.indexRows el43 (.plain rfl) (.plain rfl) (fun _ => ⟨by omega, by omega⟩)) | apply Trace.pu [] (.indexOwn el43 (.plain rfl) (.plain rfl) (fun _ => ⟨by omega, by omega⟩)) | apply Trace.pu [] (.indexSl el43 (.plain rfl) (.plain rfl) (fun _ => ⟨by omega, by omega⟩))
                first | apply Trace.storeD ty4 (.plain rfl) (.plain rfl) rfl rfl rfl (by simp [AV.oneB, single]) (Nat.le_of_ble_eq_true rfl) rfl | apply Trace.storeDA ty4 (.plain rfl) (.plain rfl) rfl rfl rfl (by simp [AV.oneB, single]) (Nat.le_of_ble_eq_true rfl) rfl | apply Trace.storeLoc ty4 (.plain rfl) (.plain rfl) rfl rfl rfl (by simp [AV.oneB, single]) (Nat.le_of_ble_eq_true rfl) rfl | apply Trace.storeRow ty4 (.plain rfl) (.plain rfl) rfl rfl rfl rfl (by decide) (by simp [AV.oneB, single]) rfl (by omega)
                exact .nil _
              · exact keepOK_of hk hn rfl
              apply WPA.region
              · apply Trace.pu [] (.move (.plain rfl))
                apply Trace.pu [] (.arith (.plain rfl) (.plain rfl) rfl (fun _ => bd64 (by omega)))
                apply Trace.pu [] (.assign (.plain rfl))
                exact .nil _
              · exact keepOK_of hk hn rfl
              exact ⟨i + 1, by omega, by omega, St.le_cons rfl (St.le_cons rfl (St.le_cons rfl (St.le_cons rfl (St.le_cons rfl (St.le_cons rfl (St.le_cons (slI (by omega)) (St.le_nil _)))))))⟩
        · have hil : i = (g.reachL u).length := by
            have : ¬ ((i : Int) < (g.reachL u).length) := by simpa using hc4
            omega
          subst hil
          have hin := put_reach hok hu
          have hpl := putTo_len g.lat.length (g.reachL u) (g.reachL u).length
          have huu : seen (putTo g.lat.length (g.reachL u) (g.reachL u).length) u = true := (hin u).2 .refl
          apply WPA.exit
          apply WPA.seq
          apply WPA.seq
          apply WPA.region
          · apply Trace.pu [] (.move (.plain rfl))
            apply Trace.pu [] ((Pure.cmp (.plain rfl) (.plain rfl) rfl).to (y := bv false) (congrArg bv (decide_eq_false (by omega))))
            apply Trace.pu [] (.move (.plain rfl))
            apply Trace.pg [] rfl (.move (.plain rfl))
            apply Trace.pg [] rfl (.move (.plain rfl))
            apply Trace.pg [] rfl (.len rfl Try.underlying43 (.gd rfl (fun h => h)) rfl)
            apply Trace.pg [] rfl ((Pure.cmp (.gd rfl (fun h => h)) (.gd rfl (fun h => h)) rfl).to (y := bv false) (congrArg bv (decide_eq_false (by omega))))
            apply Trace.pu [] (.pick (.plain rfl) (.plain rfl) (.gd rfl (by simp)))
            apply Trace.pu [] (.move (.plain rfl))
            apply Trace.pg [] rfl (.move (.plain rfl))
            apply Trace.pg [] rfl (.move (.plain rfl))
            first | apply Trace.pg [] rfl (.indexRows el43 (.gd rfl (fun h => h)) (.gd rfl (fun h => h)) (fun _ => ⟨by omega, by omega⟩)) | apply Trace.pg [] rfl (.indexOwn el43 (.gd rfl (fun h => h)) (.gd rfl (fun h => h)) (fun _ => ⟨by omega, by omega⟩)) | apply Trace.pg [] rfl (.indexSl el43 (.gd rfl (fun h => h)) (.gd rfl (fun h => h)) (fun _ => ⟨by omega, by omega⟩))
            first | apply Trace.pg [_] rfl (.loadLoc1D ty4 (.gd rfl (fun h => h)) rfl rfl) | apply Trace.pg [_] rfl (.loadLoc1 ty4 (.gd rfl (fun h => h)) rfl rfl) | apply Trace.pg [] rfl (.loadRp1 ty4 (.gd rfl (fun h => h)) rfl) | apply Trace.pg [_] rfl (.loadCol1 ty4 (.gd rfl (fun h => h)) rfl rfl rfl (fun _ => by omega))
            apply Trace.pg [] rfl (.not (.gd rfl (fun h => h)))
            apply Trace.pu [] (.pick (.plain rfl) (.plain rfl) (.gd rfl (by simp)))
            exact .nil _
          · exact keepOK_of hk hn rfl
          refine WPA.cond rfl (fun hc7 => ?_) (fun hc7 => ?_)
          · exfalso
            have h9 : (!(seen (putTo g.lat.length (g.reachL u) (g.reachL u).length) u)) = true := hc7
            rw [huu] at h9; cases h9
          · apply WPA.skip
            apply WPA.seq
            apply WPA.seq
            apply WPA.region
            · apply Trace.pu [] (.assign (.plain rfl))
              exact .nil _
            · exact keepOK_of hk hn rfl
            apply WPA.block
            refine WPA.loop (σ := Nat) (fun i => [(sl 1, .av (iv .i64 ((u : Nat)))), (sl 2, .av (.loc 2 0)), (sl 5, .av (.d (intsD (g.reachL u)))), (sl 7, .av (.own 41 g.lat.length)), (bk 2, .blk (.data g.ds)), (bk 41, .blk (.app 1 g.lat.length [.bools (putTo g.lat.length (g.reachL u) (g.reachL u).length)])), (sl 9, .av (iv .i64 (i)))]) (fun i => i ≤ g.es.length) (fun i => g.es.length - i) 0
              (St.le_cons rfl (St.le_cons rfl (St.le_cons rfl (St.le_cons rfl (St.le_cons rfl (St.le_cons rfl (St.le_cons rfl (St.le_nil _)))))))) (Nat.zero_le _) fun i hi => ?_
            apply WPA.seq
            apply WPA.seq
            apply WPA.region
            · apply Trace.pu [] (.move (.plain rfl))
              apply Trace.pu [] (.fieldAddr fl25_1 (.plain rfl) rfl)
              first | apply Trace.pu [_] (.loadLoc1D ty23 (.plain rfl) rfl rfl) | apply Trace.pu [_] (.loadLoc1 ty23 (.plain rfl) rfl rfl) | apply Trace.pu [] (.loadRp1 ty23 (.plain rfl) rfl) | apply Trace.pu [_] (.loadCol1 ty23 (.plain rfl) rfl rfl rfl (fun _ => by omega))
              apply Trace.pu [] (.len rfl Try.underlying23 (.plain rfl) rfl)
              apply Trace.pu [] (.cmp (.plain rfl) (.plain rfl) rfl)
              exact .nil _
            · exact keepOK_of hk hn rfl
            refine WPA.cond rfl (fun hc8 => ?_) (fun hc8 => ?_)
            · have hlt : i < g.es.length := by simpa using hc8
              obtain ⟨e, he⟩ : ∃ e, g.es.getD i default = e := ⟨_, rfl⟩
              have hem : e ∈ g.es := by rw [← he]; exact (Gr.edge hok hlt).1
              obtain ⟨he1, he2, he3, he4, _⟩ := Gr.edge_mem hok hem
              apply WPA.skip
              apply WPA.seq
              apply WPA.block
              apply WPA.seq
              apply WPA.region
              · apply Trace.pu [] (.fieldAddr fl25_1 (.plain rfl) rfl)
                first | apply Trace.pu [_] (.loadLoc1D ty23 (.plain rfl) rfl rfl) | apply Trace.pu [_] (.loadLoc1 ty23 (.plain rfl) rfl rfl) | apply Trace.pu [] (.loadRp1 ty23 (.plain rfl) rfl) | apply Trace.pu [_] (.loadCol1 ty23 (.plain rfl) rfl rfl rfl (fun _ => by omega))
                apply Trace.pu [] (.move (.plain rfl))
                apply Trace.pu [] ((Pure.indexRows el23 (.plain rfl) (.plain rfl) (fun _ => ⟨by omega, by omega⟩)).to (y := .rp e.ds) (by show AV.rp (g.es.getD i default).ds = _; rw [he]))
                first | apply Trace.pu [_] (.loadAllD ty40 (.plain rfl) rfl (by simp)) | apply Trace.pu [_] (.loadLocD ty40 (.plain rfl) rfl (fun _ => by simp)) | apply Trace.pu [_] (.loadLoc ty40 (.plain rfl) rfl (fun _ => Nat.le_of_ble_eq_true rfl)) | apply Trace.pu [] (.loadRp ty40 (.plain rfl) (fun _ => by decide)) | apply Trace.pu [] (.loadRp ty40 (.plain rfl) (fun _ => Nat.le_of_ble_eq_true rfl)) | apply Trace.pu [_] (.loadCol ty40 (.plain rfl) rfl rfl (fun _ => by decide) (fun _ => by omega)) | apply Trace.pu [_] (.loadArr ty40 (.plain rfl) rfl)
                apply Trace.alloc 10 [] (.data _) zo40 (cellsAs_data _) rfl
                first | apply Trace.storeD ty40 (.plain rfl) (.plain rfl) rfl rfl (by simp) (by simp [AV.oneB, single]) (by simp) (spliceL_all (by simp)) | apply Trace.storeD ty40 (.plain rfl) (.plain rfl) rfl rfl (by simp) (by simp [AV.oneB, single]) (by simp) rfl | apply Trace.storeDA ty40 (.plain rfl) (.plain rfl) rfl rfl (by simp) (by simp [AV.oneB, single]) (by simp) rfl | apply Trace.storeLoc ty40 (.plain rfl) (.plain rfl) rfl rfl (by simp) (by simp [AV.oneB, single]) (by simp) rfl | apply Trace.storeRow ty40 (.plain rfl) (.plain rfl) rfl rfl rfl rfl (by decide) (by simp [AV.oneB, single]) rfl (by omega)
                exact .nil _
              · exact keepOK_of hk hn rfl
              apply WPA.seq
              apply WPA.region
              · apply Trace.pu [] (.fieldAddr fl40_0 (.plain rfl) rfl)
                first | apply Trace.pu [_] (.loadLoc1D ty3 (.plain rfl) rfl rfl) | apply Trace.pu [_] (.loadLoc1 ty3 (.plain rfl) rfl rfl) | apply Trace.pu [] (.loadRp1 ty3 (.plain rfl) rfl) | apply Trace.pu [_] (.loadCol1 ty3 (.plain rfl) rfl rfl rfl (fun _ => by omega))
                apply Trace.pu [] ((Pure.cmp (.plain rfl) (.plain rfl) rfl).to (y := bv false) (congrArg bv (decide_eq_false (by omega))))
                apply Trace.pu [] (.move (.plain rfl))
                apply Trace.pg [] rfl (.fieldAddr fl40_0 (.plain rfl) rfl)
                first | apply Trace.pg [_] rfl (.loadLoc1D ty3 (.gd rfl (fun h => h)) rfl rfl) | apply Trace.pg [_] rfl (.loadLoc1 ty3 (.gd rfl (fun h => h)) rfl rfl) | apply Trace.pg [] rfl (.loadRp1 ty3 (.gd rfl (fun h => h)) rfl) | apply Trace.pg [_] rfl (.loadCol1 ty3 (.gd rfl (fun h => h)) rfl rfl rfl (fun _ => by omega))
                apply Trace.pg [] rfl (.move (.plain rfl))
                apply Trace.pg [] rfl (.len rfl Try.underlying43 (.gd rfl (fun h => h)) rfl)
                apply Trace.pg [] rfl ((Pure.cmp (.gd rfl (fun h => h)) (.gd rfl (fun h => h)) rfl).to (y := bv false) (congrArg bv (decide_eq_false (by omega))))
                apply Trace.pu [] (.pick (.plain rfl) (.plain rfl) (.gd rfl (by simp)))
                apply Trace.pu [] (.move (.plain rfl))
                apply Trace.pg [] rfl (.fieldAddr fl40_1 (.plain rfl) rfl)
                first | apply Trace.pg [_] rfl (.loadLoc1D ty3 (.gd rfl (fun h => h)) rfl rfl) | apply Trace.pg [_] rfl (.loadLoc1 ty3 (.gd rfl (fun h => h)) rfl rfl) | apply Trace.pg [] rfl (.loadRp1 ty3 (.gd rfl (fun h => h)) rfl) | apply Trace.pg [_] rfl (.loadCol1 ty3 (.gd rfl (fun h => h)) rfl rfl rfl (fun _ => by omega))
                apply Trace.pg [] rfl ((Pure.cmp (.gd rfl (fun h => h)) (.plain rfl) rfl).to (y := bv false) (congrArg bv (decide_eq_false (by omega))))
                apply Trace.pu [] (.pick (.plain rfl) (.plain rfl) (.gd rfl (by simp)))
                apply Trace.pu [] (.move (.plain rfl))
                apply Trace.pg [] rfl (.fieldAddr fl40_1 (.plain rfl) rfl)
                first | apply Trace.pg [_] rfl (.loadLoc1D ty3 (.gd rfl (fun h => h)) rfl rfl) | apply Trace.pg [_] rfl (.loadLoc1 ty3 (.gd rfl (fun h => h)) rfl rfl) | apply Trace.pg [] rfl (.loadRp1 ty3 (.gd rfl (fun h => h)) rfl) | apply Trace.pg [_] rfl (.loadCol1 ty3 (.gd rfl (fun h => h)) rfl rfl rfl (fun _ => by omega))
                apply Trace.pg [] rfl (.move (.plain rfl))
                apply Trace.pg [] rfl (.len rfl Try.underlying43 (.gd rfl (fun h => h)) rfl)
                apply Trace.pg [] rfl ((Pure.cmp (.gd rfl (fun h => h)) (.gd rfl (fun h => h)) rfl).to (y := bv false) (congrArg bv (decide_eq_false (by omega))))
                apply Trace.pu [] (.pick (.plain rfl) (.plain rfl) (.gd rfl (by simp)))
                apply Trace.pu [] (.move (.plain rfl))
                apply Trace.pg [] rfl (.move (.plain rfl))
                apply Trace.pg [] rfl (.fieldAddr fl40_0 (.plain rfl) rfl)
                first | apply Trace.pg [_] rfl (.loadLoc1D ty3 (.gd rfl (fun h => h)) rfl rfl) | apply Trace.pg [_] rfl (.loadLoc1 ty3 (.gd rfl (fun h => h)) rfl rfl) | apply Trace.pg [] rfl (.loadRp1 ty3 (.gd rfl (fun h => h)) rfl) | apply Trace.pg [_] rfl (.loadCol1 ty3 (.gd rfl (fun h => h)) rfl rfl rfl (fun _ => by omega))
                first | apply Trace.pg [] rfl (.indexRows el43 (.gd rfl (fun h => h)) (.gd rfl (fun h => h)) (fun _ => ⟨by omega, by omega⟩)) | apply Trace.pg [] rfl (.indexOwn el43 (.gd rfl (fun h => h)) (.gd rfl (fun h => h)) (fun _ => ⟨by omega, by omega⟩)) | apply Trace.pg [] rfl (.indexSl el43 (.gd rfl (fun h => h)) (.gd rfl (fun h => h)) (fun _ => ⟨by omega, by omega⟩))
                first | apply Trace.pg [_] rfl (.loadLoc1D ty4 (.gd rfl (fun h => h)) rfl rfl) | apply Trace.pg [_] rfl (.loadLoc1 ty4 (.gd rfl (fun h => h)) rfl rfl) | apply Trace.pg [] rfl (.loadRp1 ty4 (.gd rfl (fun h => h)) rfl) | apply Trace.pg [_] rfl (.loadCol1 ty4 (.gd rfl (fun h => h)) rfl rfl rfl (fun _ => by omega))
                apply Trace.pg [] rfl (.move (.gd rfl (fun h => h)))
                apply Trace.pg [] rfl (.move (.plain rfl))
                apply Trace.pg [] rfl (.fieldAddr fl40_1 (.plain rfl) rfl)
                first | apply Trace.pg [_] rfl (.loadLoc1D ty3 (.gd rfl (fun h => h)) rfl rfl) | apply Trace.pg [_] rfl (.loadLoc1 ty3 (.gd rfl (fun h => h)) rfl rfl) | apply Trace.pg [] rfl (.loadRp1 ty3 (.gd rfl (fun h => h)) rfl) | apply Trace.pg [_] rfl (.loadCol1 ty3 (.gd rfl (fun h => h)) rfl rfl rfl (fun _ => by omega))
                first | apply Trace.pg [] rfl (.indexRows el43 (.gd rfl (fun h => h)) (.gd rfl (fun h => h)) (fun _ => ⟨by omega, by omega⟩)) | apply Trace.pg [] rfl (.indexOwn el43 (.gd rfl (fun h => h)) (.gd rfl (fun h => h)) (fun _ => ⟨by omega, by omega⟩)) | apply Trace.pg [] rfl (.indexSl el43 (.gd rfl (fun h => h)) (.gd rfl (fun h => h)) (fun _ => ⟨by omega, by omega⟩))
                first | apply Trace.pg [_] rfl (.loadLoc1D ty4 (.gd rfl (fun h => h)) rfl rfl) | apply Trace.pg [_] rfl (.loadLoc1 ty4 (.gd rfl (fun h => h)) rfl rfl) | apply Trace.pg [] rfl (.loadRp1 ty4 (.gd rfl (fun h => h)) rfl) | apply Trace.pg [_] rfl (.loadCol1 ty4 (.gd rfl (fun h => h)) rfl rfl rfl (fun _ => by omega))
                apply Trace.pg [] rfl (.not (.gd rfl (fun h => h)))
                apply Trace.pg [] rfl (.pick (.gd rfl (fun h => h)) (.gd rfl (by simp)) (.plain rfl))
                apply Trace.pu [] (.pick (.plain rfl) (.plain rfl) (.gd rfl (by simp)))
                exact .nil _
              · exact keepOK_of hk hn rfl
              refine WPA.cond rfl (fun hc9 => ?_) (fun hc9 => ?_)
              · exfalso
                have h9 : (bif seen (putTo g.lat.length (g.reachL u) (g.reachL u).length) e.f.toNat then !(seen (putTo g.lat.length (g.reachL u) (g.reachL u).length) e.t.toNat) else false) = true := hc9
                cases hf : seen (putTo g.lat.length (g.reachL u) (g.reachL u).length) e.f.toNat with
                | false => rw [hf] at h9; cases h9
                | true => rw [hf, (hin e.t.toNat).2 (.step hem ((hin e.f.toNat).1 hf))] at h9; cases h9
              · apply WPA.skip
                apply WPA.region
                · apply Trace.pu [] (.move (.plain rfl))
                  apply Trace.pu [] (.arith (.plain rfl) (.plain rfl) rfl (fun _ => bd64 (by omega)))
                  apply Trace.pu [] (.assign (.plain rfl))
                  exact .nil _
                · exact keepOK_of hk hn rfl
                exact ⟨i + 1, by omega, by omega, St.le_cons rfl (St.le_cons rfl (St.le_cons rfl (St.le_cons rfl (St.le_cons rfl (St.le_cons rfl (St.le_cons (slI (by omega)) (St.le_nil _)))))))⟩
            · apply WPA.exit
              apply WPA.seq
              apply WPA.seq
              apply WPA.region
              · apply Trace.pu [] (.assign (.plain rfl))
                exact .nil _
              · exact keepOK_of hk hn rfl
              apply WPA.block
              refine WPA.loop (σ := Nat) (fun i => [(sl 1, .av (iv .i64 ((u : Nat)))), (sl 2, .av (.loc 2 0)), (sl 5, .av (.d (intsD (g.reachL u)))), (sl 7, .av (.own 41 g.lat.length)), (bk 2, .blk (.data g.ds)), (bk 41, .blk (.app 1 g.lat.length [.bools (putTo g.lat.length (g.reachL u) (g.reachL u).length)])), (sl 11, .av (iv .i64 (i)))]) (fun i => i ≤ (g.reachL u).length) (fun i => (g.reachL u).length - i) 0
                (St.le_cons rfl (St.le_cons rfl (St.le_cons rfl (St.le_cons rfl (St.le_cons rfl (St.le_cons rfl (St.le_cons rfl (St.le_nil _)))))))) (Nat.zero_le _) fun i hi => ?_
              apply WPA.seq
              apply WPA.seq
              apply WPA.region
              · apply Trace.pu [] (.move (.plain rfl))
                apply Trace.pu [] (.move (.plain rfl))
                apply Trace.pu [] (.len rfl Try.underlying22 (.plain rfl) rfl)
                apply Trace.pu [] (.cmp (.plain rfl) (.plain rfl) rfl)
                exact .nil _
              · exact keepOK_of hk hn rfl
              refine WPA.cond rfl (fun hc10 => ?_) (fun hc10 => ?_)
              · have hlt : i < (g.reachL u).length := by simpa using hc10
                obtain ⟨w, hw, hwn, hww⟩ := reachL_at hok hu hlt
                have hrlw : (g.reachL w).length ≤ g.lat.length := markL_len _ _
                have hw2 : (g.reachL u).getD ((i : Nat) : Int).toNat 0 = (w : Int) := hw
                apply WPA.skip
                apply WPA.seq
                apply WPA.block
                apply WPA.seq
                apply WPA.draw mixed
                · first | apply Trace.pu [_] (.loadAllD ty25 (.plain rfl) rfl (by simp)) | apply Trace.pu [_] (.loadLocD ty25 (.plain rfl) rfl (fun _ => by simp)) | apply Trace.pu [_] (.loadLoc ty25 (.plain rfl) rfl (fun _ => Nat.le_of_ble_eq_true rfl)) | apply Trace.pu [] (.loadRp ty25 (.plain rfl) (fun _ => by decide)) | apply Trace.pu [] (.loadRp ty25 (.plain rfl) (fun _ => Nat.le_of_ble_eq_true rfl)) | apply Trace.pu [_] (.loadCol ty25 (.plain rfl) rfl rfl (fun _ => by decide) (fun _ => by omega)) | apply Trace.pu [_] (.loadArr ty25 (.plain rfl) rfl)
                  apply Trace.pu [] (.move (.plain rfl))
                  apply Trace.pu [] (.move (.plain rfl))
                  first | apply Trace.pu [] (.indexRows el22 (.plain rfl) (.plain rfl) (fun _ => ⟨by omega, by omega⟩)) | apply Trace.pu [] (.indexOwn el22 (.plain rfl) (.plain rfl) (fun _ => ⟨by omega, by omega⟩)) | apply Trace.pu [] (.indexSl el22 (.plain rfl) (.plain rfl) (fun _ => ⟨by omega, by omega⟩))
                  apply Trace.pu [] ((Pure.loadRp1 ty3 (.plain rfl) rfl).to (y := iv .i64 (w : Nat)) (congrArg (iv .i64) hw2))
                  apply Trace.ct (callArgs0 (.cons (.plain rfl) (.cons (.plain rfl) .nil))) (reN hz (reachP_at hfo hwn)) en14
                  apply Trace.pu [] (.move (.plain rfl))
                  apply Trace.pu [] (.extract (.plain rfl) rfl)
                  apply Trace.pu [] (.extract (.plain rfl) rfl)
                  apply Trace.pu [] (.assign (.plain rfl))
                  apply Trace.pu [] (.assign (.plain rfl))
                  exact .nil _
                · rfl
                · exact keepOK_of hk hn rfl
                apply WPA.seq
                apply WPA.seq
                apply WPA.region
                · apply Trace.pu [] (.move (.plain rfl))
                  apply Trace.pu [] (.cmp (.plain rfl) (.plain rfl) rfl)
                  exact .nil _
                · exact keepOK_of hk hn rfl
                refine WPA.cond rfl (fun hc11 => ?_) (fun hc11 => ?_)
                · cases hc11
                · apply WPA.skip
                  apply WPA.seq
                  apply WPA.region
                  · apply Trace.pu [] (.assign (.plain rfl))
                    exact .nil _
                  · exact keepOK_of hk hn rfl
                  apply WPA.block
                  refine WPA.loop (σ := Nat) (fun k => [(sl 1, .av (iv .i64 ((u : Nat)))), (sl 2, .av (.loc 2 0)), (sl 5, .av (.d (intsD (g.reachL u)))), (sl 7, .av (.own 41 g.lat.length)), (bk 2, .blk (.data g.ds)), (bk 41, .blk (.app 1 g.lat.length [.bools (putTo g.lat.length (g.reachL u) (g.reachL u).length)])), (sl 11, .av (iv .i64 (i))), (sl 12, .av (.d (intsD (g.reachL w)))), (sl 14, .av (iv .i64 (k)))]) (fun k => k ≤ (g.reachL w).length) (fun k => (g.reachL w).length - k) 0
                    (St.le_cons rfl (St.le_cons rfl (St.le_cons rfl (St.le_cons rfl (St.le_cons rfl (St.le_cons rfl (St.le_cons rfl (St.le_cons rfl (St.le_cons rfl (St.le_nil _)))))))))) (Nat.zero_le _) fun k hk4 => ?_
                  apply WPA.seq
                  apply WPA.seq
                  apply WPA.region
                  · apply Trace.pu [] (.move (.plain rfl))
                    apply Trace.pu [] (.move (.plain rfl))
                    apply Trace.pu [] (.len rfl Try.underlying22 (.plain rfl) rfl)
                    apply Trace.pu [] (.cmp (.plain rfl) (.plain rfl) rfl)
                    exact .nil _
                  · exact keepOK_of hk hn rfl
                  refine WPA.cond rfl (fun hc12 => ?_) (fun hc12 => ?_)
                  · have hlt4 : k < (g.reachL w).length := by simpa using hc12
                    obtain ⟨z, hzz, hzn, hzw⟩ := reachL_at hok hwn hlt4
                    have hz2 : (g.reachL w).getD ((k : Nat) : Int).toNat 0 = (z : Int) := hzz
                    have hsz : seen (putTo g.lat.length (g.reachL u) (g.reachL u).length) ((g.reachL w).getD ((k : Nat) : Int).toNat 0).toNat = true := by rw [hz2]; exact (hin z).2 (hww.trans hzw)
                    apply WPA.skip
                    apply WPA.seq
                    apply WPA.block
                    apply WPA.seq
                    apply WPA.region
                    · apply Trace.pu [] (.move (.plain rfl))
                      apply Trace.pu [] (.move (.plain rfl))
                      first | apply Trace.pu [] (.indexRows el22 (.plain rfl) (.plain rfl) (fun _ => ⟨by omega, by omega⟩)) | apply Trace.pu [] (.indexOwn el22 (.plain rfl) (.plain rfl) (fun _ => ⟨by omega, by omega⟩)) | apply Trace.pu [] (.indexSl el22 (.plain rfl) (.plain rfl) (fun _ => ⟨by omega, by omega⟩))
                      first | apply Trace.pu [_] (.loadLoc1D ty3 (.plain rfl) rfl rfl) | apply Trace.pu [_] (.loadLoc1 ty3 (.plain rfl) rfl rfl) | apply Trace.pu [] (.loadRp1 ty3 (.plain rfl) rfl) | apply Trace.pu [_] (.loadCol1 ty3 (.plain rfl) rfl rfl rfl (fun _ => by omega))
                      apply Trace.pu [] ((Pure.cmp (.plain rfl) (.plain rfl) rfl).to (y := bv false) (congrArg bv (decide_eq_false (by omega))))
                      apply Trace.pu [] (.move (.plain rfl))
                      apply Trace.pg [] rfl (.move (.plain rfl))
                      apply Trace.pg [] rfl (.move (.plain rfl))
                      first | apply Trace.pg [] rfl (.indexRows el22 (.gd rfl (fun h => h)) (.gd rfl (fun h => h)) (fun _ => ⟨by omega, by omega⟩)) | apply Trace.pg [] rfl (.indexOwn el22 (.gd rfl (fun h => h)) (.gd rfl (fun h => h)) (fun _ => ⟨by omega, by omega⟩)) | apply Trace.pg [] rfl (.indexSl el22 (.gd rfl (fun h => h)) (.gd rfl (fun h => h)) (fun _ => ⟨by omega, by omega⟩))
                      first | apply Trace.pg [_] rfl (.loadLoc1D ty3 (.gd rfl (fun h => h)) rfl rfl) | apply Trace.pg [_] rfl (.loadLoc1 ty3 (.gd rfl (fun h => h)) rfl rfl) | apply Trace.pg [] rfl (.loadRp1 ty3 (.gd rfl (fun h => h)) rfl) | apply Trace.pg [_] rfl (.loadCol1 ty3 (.gd rfl (fun h => h)) rfl rfl rfl (fun _ => by omega))
                      apply Trace.pg [] rfl (.move (.plain rfl))
                      apply Trace.pg [] rfl (.len rfl Try.underlying43 (.gd rfl (fun h => h)) rfl)
                      apply Trace.pg [] rfl ((Pure.cmp (.gd rfl (fun h => h)) (.gd rfl (fun h => h)) rfl).to (y := bv false) (congrArg bv (decide_eq_false (by omega))))
                      apply Trace.pu [] (.pick (.plain rfl) (.plain rfl) (.gd rfl (by simp)))
                      apply Trace.pu [] (.move (.plain rfl))
                      apply Trace.pg [] rfl (.move (.plain rfl))
                      apply Trace.pg [] rfl (.move (.plain rfl))
                      apply Trace.pg [] rfl (.move (.plain rfl))
                      first | apply Trace.pg [] rfl (.indexRows el22 (.gd rfl (fun h => h)) (.gd rfl (fun h => h)) (fun _ => ⟨by omega, by omega⟩)) | apply Trace.pg [] rfl (.indexOwn el22 (.gd rfl (fun h => h)) (.gd rfl (fun h => h)) (fun _ => ⟨by omega, by omega⟩)) | apply Trace.pg [] rfl (.indexSl el22 (.gd rfl (fun h => h)) (.gd rfl (fun h => h)) (fun _ => ⟨by omega, by omega⟩))
                      first | apply Trace.pg [_] rfl (.loadLoc1D ty3 (.gd rfl (fun h => h)) rfl rfl) | apply Trace.pg [_] rfl (.loadLoc1 ty3 (.gd rfl (fun h => h)) rfl rfl) | apply Trace.pg [] rfl (.loadRp1 ty3 (.gd rfl (fun h => h)) rfl) | apply Trace.pg [_] rfl (.loadCol1 ty3 (.gd rfl (fun h => h)) rfl rfl rfl (fun _ => by omega))
                      first | apply Trace.pg [] rfl (.indexRows el43 (.gd rfl (fun h => h)) (.gd rfl (fun h => h)) (fun _ => ⟨by omega, by omega⟩)) | apply Trace.pg [] rfl (.indexOwn el43 (.gd rfl (fun h => h)) (.gd rfl (fun h => h)) (fun _ => ⟨by omega, by omega⟩)) | apply Trace.pg [] rfl (.indexSl el43 (.gd rfl (fun h => h)) (.gd rfl (fun h => h)) (fun _ => ⟨by omega, by omega⟩))
                      first | apply Trace.pg [_] rfl (.loadLoc1D ty4 (.gd rfl (fun h => h)) rfl rfl) | apply Trace.pg [_] rfl (.loadLoc1 ty4 (.gd rfl (fun h => h)) rfl rfl) | apply Trace.pg [] rfl (.loadRp1 ty4 (.gd rfl (fun h => h)) rfl) | apply Trace.pg [_] rfl (.loadCol1 ty4 (.gd rfl (fun h => h)) rfl rfl rfl (fun _ => by omega))
                      apply Trace.pg [] rfl (.not (.gd rfl (fun h => h)))
                      apply Trace.pu [] (.pick (.plain rfl) (.plain rfl) (.gd rfl (by simp)))
                      exact .nil _
                    · exact keepOK_of hk hn rfl
                    refine WPA.cond rfl (fun hc13 => ?_) (fun hc13 => ?_)
                    · exfalso
                      have h9 : (!(seen (putTo g.lat.length (g.reachL u) (g.reachL u).length) ((g.reachL w).getD ((k : Nat) : Int).toNat 0).toNat)) = true := hc13
                      rw [hsz] at h9; cases h9
                    · apply WPA.skip
                      apply WPA.region
                      · apply Trace.pu [] (.move (.plain rfl))
                        apply Trace.pu [] (.arith (.plain rfl) (.plain rfl) rfl (fun _ => bd64 (by omega)))
                        apply Trace.pu [] (.assign (.plain rfl))
                        exact .nil _
                      · exact keepOK_of hk hn rfl
                      exact ⟨k + 1, by omega, by omega, St.le_cons rfl (St.le_cons rfl (St.le_cons rfl (St.le_cons rfl (St.le_cons rfl (St.le_cons rfl (St.le_cons rfl (St.le_cons rfl (St.le_cons (slI (by omega)) (St.le_nil _)))))))))⟩
                  · apply WPA.exit
                    apply WPA.region
                    · apply Trace.pu [] (.move (.plain rfl))
                      apply Trace.pu [] (.arith (.plain rfl) (.plain rfl) rfl (fun _ => bd64 (by omega)))
                      apply Trace.pu [] (.assign (.plain rfl))
                      exact .nil _
                    · exact keepOK_of hk hn rfl
                    exact ⟨i + 1, by omega, by omega, St.le_cons rfl (St.le_cons rfl (St.le_cons rfl (St.le_cons rfl (St.le_cons rfl (St.le_cons rfl (St.le_cons (slI (by omega)) (St.le_nil _)))))))⟩
              · apply WPA.exit
                apply WPA.seq
                apply WPA.region
                · apply Trace.pu [] (.assign (.plain rfl))
                  exact .nil _
                · exact keepOK_of hk hn rfl
                apply WPA.ret
                refine ⟨.inr rfl, ⟨_, (.cons (.tmp rfl) .nil), ?_⟩, by simp [St.get]⟩
                rfl

end Go.Proofs.Ytcnikeonaklkoaa

