import Derived.Test.YtglokdfdogmmhaaPkB
import Derived.Test.YtglokdfdogmmhaaPkC
/- The reference's parts. -/
namespace Go.Proofs.Ytglokdfdogmmhaa
open Go
set_option linter.unusedVariables false
set_option linter.unusedSimpArgs false
set_option maxRecDepth 10000
set_option maxHeartbeats 2000000

theorem ownS {l m k : Nat} (h : m = k) : some (Cont.av (.own l m)) = some (Cont.av (.own l k)) := by rw [h]
theorem refTo_lenle (g : Gr) : ∀ k, (g.refTo k).2.length ≤ k
  | 0 => Nat.le_refl _
  | k + 1 => by
    have ih := refTo_lenle g k
    show (g.stepR (g.refTo k)).2.length ≤ k + 1
    unfold Gr.stepR
    split
    · omega
    · simp; omega
/-- soundpost/soundpostref22.reach -/
theorem spec30 {g : Gr} (h : g.OK) {v : Nat} (hv : v < g.lat.length) : FnSpec Try.prog 30 [g.av, iv .i64 (v : Nat)] [] (.d (boolsD (g.markR v g.lat.length))) [] [] := by
  have hn1 := h.n
  have hm1 := h.m
  refine fnSpec_of (rs := [.tmp 4]) Try.func30 rfl rfl (Nat.le_of_ble_eq_true rfl) (by simp [St.get]) fun E hk hn => ?_
  apply WPA.seq
  apply WPA.region
  · first | apply Trace.boxD 2 [] (.plain rfl) rfl rfl | apply Trace.box 2 [] (.plain rfl) rfl rfl rfl
    apply Trace.pu [] (.assign (.plain rfl))
    exact .nil _
  · exact keepOK_of hk hn rfl
  apply WPA.seq
  apply WPA.region
  · apply Trace.pu [] (.fieldAddr fl25_0 (.plain rfl) rfl)
    first | apply Trace.pu [_] (.loadLoc1D ty22 (.plain rfl) rfl rfl) | apply Trace.pu [_] (.loadLoc1 ty22 (.plain rfl) rfl rfl) | apply Trace.pu [] (.loadRp1 ty22 (.plain rfl) rfl) | apply Trace.pu [_] (.loadCol1 ty22 (.plain rfl) rfl rfl rfl (fun _ => by omega))
    apply Trace.pu [] (.len rfl Try.underlying22 (.plain rfl) rfl)
    apply Trace.makeSlice 11 [] so45 by4 zo4 rfl (by decide) (.plain rfl) (.plain rfl) ⟨by omega, by omega⟩ (by omega) (by omega) rfl rfl
    apply Trace.pu [] (.assign (.plain rfl))
    exact .nil _
  · exact keepOK_of hk hn rfl
  apply WPA.seq
  apply WPA.region
  · apply Trace.pu [] (.move (.plain rfl))
    apply Trace.pu [] (.move (.plain rfl))
    first | apply Trace.pu [] (.indexRows el45 (.plain rfl) (.plain rfl) (fun _ => ⟨by omega, by omega⟩)) | apply Trace.pu [] (.indexOwn el45 (.plain rfl) (.plain rfl) (fun _ => ⟨by omega, by omega⟩)) | apply Trace.pu [] (.indexSl el45 (.plain rfl) (.plain rfl) (fun _ => ⟨by omega, by omega⟩))
    first | apply Trace.storeD ty4 (.plain rfl) (.plain rfl) rfl rfl rfl (by simp [AV.oneB, single]) (Nat.le_of_ble_eq_true rfl) rfl | apply Trace.storeDA ty4 (.plain rfl) (.plain rfl) rfl rfl rfl (by simp [AV.oneB, single]) (Nat.le_of_ble_eq_true rfl) rfl | apply Trace.storeLoc ty4 (.plain rfl) (.plain rfl) rfl rfl rfl (by simp [AV.oneB, single]) (Nat.le_of_ble_eq_true rfl) rfl | apply Trace.storeRow ty4 (.plain rfl) (.plain rfl) rfl rfl rfl rfl (by decide) (by simp [AV.oneB, single]) rfl (by omega)
    exact .nil _
  · exact keepOK_of hk hn rfl
  apply WPA.seq
  apply WPA.seq
  apply WPA.region
  · apply Trace.pu [] (.assign (.plain rfl))
    exact .nil _
  · exact keepOK_of hk hn rfl
  apply WPA.block
  refine WPA.loop (σ := Nat) (fun i => [(sl 2, .av (.loc 2 0)), (sl 5, .av (.own 11 g.lat.length)), (sl 6, .av (iv .i64 (i))), (bk 2, .blk (.data g.ds)), (bk 11, .blk (.app 1 g.lat.length [.bools (g.markR v i)]))]) (fun i => i ≤ g.lat.length) (fun i => g.lat.length - i) 0
    (St.le_cons rfl (St.le_cons rfl (St.le_cons rfl (St.le_cons rfl (St.le_cons rfl (St.le_nil _)))))) (Nat.zero_le _) fun k hk0 => ?_
  apply WPA.seq
  apply WPA.seq
  apply WPA.region
  · apply Trace.pu [] (.move (.plain rfl))
    apply Trace.pu [] (.move (.plain rfl))
    apply Trace.pu [] (.len rfl Try.underlying45 (.plain rfl) rfl)
    apply Trace.pu [] (.cmp (.plain rfl) (.plain rfl) rfl)
    exact .nil _
  · exact keepOK_of hk hn rfl
  refine WPA.cond rfl (fun hc1 => ?_) (fun hc1 => ?_)
  · have hkn : k < g.lat.length := by simpa using hc1
    apply WPA.skip
    apply WPA.seq
    apply WPA.block
    apply WPA.seq
    apply WPA.region
    · apply Trace.pu [] (.assign (.plain rfl))
      exact .nil _
    · exact keepOK_of hk hn rfl
    apply WPA.block
    refine WPA.loop (σ := Nat) (fun i => [(sl 2, .av (.loc 2 0)), (sl 5, .av (.own 11 g.lat.length)), (sl 6, .av (iv .i64 (k))), (sl 7, .av (iv .i64 (i))), (bk 2, .blk (.data g.ds)), (bk 11, .blk (.app 1 g.lat.length [.bools (g.markTo (g.markR v k) i)]))]) (fun i => i ≤ g.es.length) (fun i => g.es.length - i) 0
      (St.le_cons rfl (St.le_cons rfl (St.le_cons rfl (St.le_cons rfl (St.le_cons rfl (St.le_cons rfl (St.le_nil _))))))) (Nat.zero_le _) fun i hi => ?_
    apply WPA.seq
    apply WPA.seq
    apply WPA.region
    · apply Trace.pu [] (.move (.plain rfl))
      apply Trace.pu [] (.fieldAddr fl25_1 (.plain rfl) rfl)
      first | apply Trace.pu [_] (.loadLoc1D ty23 (.plain rfl) rfl rfl) | apply Trace.pu [_] (.loadLoc1 ty23 (.plain rfl) rfl rfl) | apply Trace.pu [] (.loadRp1 ty23 (.plain rfl) rfl) | apply Trace.pu [_] (.loadCol1 ty23 (.plain rfl) rfl rfl rfl (fun _ => by omega))
      apply Trace.pu [] (.len rfl Try.underlying23 (.plain rfl) rfl)
      apply Trace.pu [] (.cmp (.plain rfl) (.plain rfl) rfl)
      exact .nil _
    · exact keepOK_of hk hn rfl
    refine WPA.cond rfl (fun hc2 => ?_) (fun hc2 => ?_)
    · have hlt : i < g.es.length := by simpa using hc2
      obtain ⟨e, he⟩ : ∃ e, g.es.getD i default = e := ⟨_, rfl⟩
      obtain ⟨hem, hef, het, hef0, het0⟩ := he ▸ Gr.edge h hlt
      have hlen : (g.markTo (g.markR v k) i).length = g.lat.length := by rw [markTo_len, markR_len]
      have hms : g.markTo (g.markR v k) (i + 1) = if seen (g.markTo (g.markR v k) i) e.f.toNat = true then (g.markTo (g.markR v k) i).set e.t.toNat true else g.markTo (g.markR v k) i := by
        rw [← he]; rfl
      generalize g.markTo (g.markR v k) i = l at hlen hms ⊢
      apply WPA.skip
      apply WPA.seq
      apply WPA.block
      apply WPA.seq
      apply WPA.region
      · apply Trace.pu [] (.move (.plain rfl))
        apply Trace.pu [] (.fieldAddr fl25_1 (.plain rfl) rfl)
        first | apply Trace.pu [_] (.loadLoc1D ty23 (.plain rfl) rfl rfl) | apply Trace.pu [_] (.loadLoc1 ty23 (.plain rfl) rfl rfl) | apply Trace.pu [] (.loadRp1 ty23 (.plain rfl) rfl) | apply Trace.pu [_] (.loadCol1 ty23 (.plain rfl) rfl rfl rfl (fun _ => by omega))
        apply Trace.pu [] (.move (.plain rfl))
        apply Trace.pu [] ((Pure.indexRows el23 (.plain rfl) (.plain rfl) (fun _ => ⟨by omega, by omega⟩)).to (y := .rp e.ds) (by show AV.rp (g.es.getD i default).ds = _; rw [he]))
        apply Trace.pu [] (.fieldAddr fl43_0 (.plain rfl) rfl)
        first | apply Trace.pu [_] (.loadLoc1D ty3 (.plain rfl) rfl rfl) | apply Trace.pu [_] (.loadLoc1 ty3 (.plain rfl) rfl rfl) | apply Trace.pu [] (.loadRp1 ty3 (.plain rfl) rfl) | apply Trace.pu [_] (.loadCol1 ty3 (.plain rfl) rfl rfl rfl (fun _ => by omega))
        first | apply Trace.pu [] (.indexRows el45 (.plain rfl) (.plain rfl) (fun _ => ⟨by omega, by omega⟩)) | apply Trace.pu [] (.indexOwn el45 (.plain rfl) (.plain rfl) (fun _ => ⟨by omega, by omega⟩)) | apply Trace.pu [] (.indexSl el45 (.plain rfl) (.plain rfl) (fun _ => ⟨by omega, by omega⟩))
        first | apply Trace.pu [_] (.loadLoc1D ty4 (.plain rfl) rfl rfl) | apply Trace.pu [_] (.loadLoc1 ty4 (.plain rfl) rfl rfl) | apply Trace.pu [] (.loadRp1 ty4 (.plain rfl) rfl) | apply Trace.pu [_] (.loadCol1 ty4 (.plain rfl) rfl rfl rfl (fun _ => by omega))
        exact .nil _
      · exact keepOK_of hk hn rfl
      refine WPA.cond rfl (fun hc3 => ?_) (fun hc3 => ?_)
      · have hsn : seen l e.f.toNat = true := hc3
        rw [if_pos hsn] at hms
        apply WPA.region
        · apply Trace.pu [] (.move (.plain rfl))
          apply Trace.pu [] (.fieldAddr fl25_1 (.plain rfl) rfl)
          first | apply Trace.pu [_] (.loadLoc1D ty23 (.plain rfl) rfl rfl) | apply Trace.pu [_] (.loadLoc1 ty23 (.plain rfl) rfl rfl) | apply Trace.pu [] (.loadRp1 ty23 (.plain rfl) rfl) | apply Trace.pu [_] (.loadCol1 ty23 (.plain rfl) rfl rfl rfl (fun _ => by omega))
          apply Trace.pu [] (.move (.plain rfl))
          apply Trace.pu [] ((Pure.indexRows el23 (.plain rfl) (.plain rfl) (fun _ => ⟨by omega, by omega⟩)).to (y := .rp e.ds) (by show AV.rp (g.es.getD i default).ds = _; rw [he]))
          apply Trace.pu [] (.fieldAddr fl43_1 (.plain rfl) rfl)
          first | apply Trace.pu [_] (.loadLoc1D ty3 (.plain rfl) rfl rfl) | apply Trace.pu [_] (.loadLoc1 ty3 (.plain rfl) rfl rfl) | apply Trace.pu [] (.loadRp1 ty3 (.plain rfl) rfl) | apply Trace.pu [_] (.loadCol1 ty3 (.plain rfl) rfl rfl rfl (fun _ => by omega))
          first | apply Trace.pu [] (.indexRows el45 (.plain rfl) (.plain rfl) (fun _ => ⟨by omega, by omega⟩)) | apply Trace.pu [] (.indexOwn el45 (.plain rfl) (.plain rfl) (fun _ => ⟨by omega, by omega⟩)) | apply Trace.pu [] (.indexSl el45 (.plain rfl) (.plain rfl) (fun _ => ⟨by omega, by omega⟩))
          first | apply Trace.storeD ty4 (.plain rfl) (.plain rfl) rfl rfl rfl (by simp [AV.oneB, single]) (Nat.le_of_ble_eq_true rfl) rfl | apply Trace.storeDA ty4 (.plain rfl) (.plain rfl) rfl rfl rfl (by simp [AV.oneB, single]) (Nat.le_of_ble_eq_true rfl) rfl | apply Trace.storeLoc ty4 (.plain rfl) (.plain rfl) rfl rfl rfl (by simp [AV.oneB, single]) (Nat.le_of_ble_eq_true rfl) rfl | apply Trace.storeRow ty4 (.plain rfl) (.plain rfl) rfl rfl rfl rfl (by decide) (by simp [AV.oneB, single]) rfl (by omega)
          exact .nil _
        · exact keepOK_of hk hn rfl
        apply WPA.region
        · apply Trace.pu [] (.move (.plain rfl))
          apply Trace.pu [] (.arith (.plain rfl) (.plain rfl) rfl (fun _ => bd64 (by omega)))
          apply Trace.pu [] (.assign (.plain rfl))
          exact .nil _
        · exact keepOK_of hk hn rfl
        refine ⟨i + 1, by omega, by omega, ?_⟩
        rw [hms]
        exact (St.le_cons rfl (St.le_cons rfl (St.le_cons rfl (St.le_cons (slI (by omega)) (St.le_cons rfl (St.le_cons rfl (St.le_nil _)))))))
      · have hsn : seen l e.f.toNat = false := hc3
        rw [if_neg (by rw [hsn]; decide)] at hms
        apply WPA.skip
        apply WPA.region
        · apply Trace.pu [] (.move (.plain rfl))
          apply Trace.pu [] (.arith (.plain rfl) (.plain rfl) rfl (fun _ => bd64 (by omega)))
          apply Trace.pu [] (.assign (.plain rfl))
          exact .nil _
        · exact keepOK_of hk hn rfl
        refine ⟨i + 1, by omega, by omega, ?_⟩
        rw [hms]
        exact (St.le_cons rfl (St.le_cons rfl (St.le_cons rfl (St.le_cons (slI (by omega)) (St.le_cons rfl (St.le_cons rfl (St.le_nil _)))))))
    · have him : i = g.es.length := by
        have : ¬ ((i : Int) < g.es.length) := by simpa using hc2
        omega
      subst him
      apply WPA.exit
      apply WPA.region
      · apply Trace.pu [] (.move (.plain rfl))
        apply Trace.pu [] (.arith (.plain rfl) (.plain rfl) rfl (fun _ => bd64 (by omega)))
        apply Trace.pu [] (.assign (.plain rfl))
        exact .nil _
      · exact keepOK_of hk hn rfl
      exact ⟨k + 1, by omega, by omega, St.le_cons rfl (St.le_cons rfl (St.le_cons (slI (by omega)) (St.le_cons rfl (St.le_cons rfl (St.le_nil _)))))⟩
  · have hkn : k = g.lat.length := by
      have : ¬ ((k : Int) < g.lat.length) := by simpa using hc1
      omega
    subst hkn
    have hlen := markR_len g v g.lat.length
    apply WPA.exit
    apply WPA.seq
    refine WPA.ghost (Ghost.freezeAs (t := 5) (l := 11) (g := fun i => [Col.at (.bools (g.markR v g.lat.length)) i]) rfl rfl (fun i hi => rfl)) ?_
    apply WPA.region
    · apply Trace.pu [] (.move (.plain rfl))
      apply Trace.pu [] (.assign (.plain rfl))
      exact .nil _
    · exact keepOK_of hk hn rfl
    apply WPA.ret
    refine ⟨.inr rfl, ⟨_, (.cons (.tmp rfl) .nil), ?_⟩, by simp [St.get]⟩
    rw [show boolsD (g.markR v g.lat.length) = rowsD 1 g.lat.length [.bools (g.markR v g.lat.length)] from by unfold boolsD; rw [hlen]]; rfl

/-- soundpost/soundpostref22.next -/
theorem spec31 {g : Gr} (h : g.OK) {pl : List Bool} (hpl : pl.length = g.lat.length) {v : Nat} (hv : v < g.lat.length) : FnSpec Try.prog 31 [.d g.mD, .own 29 g.lat.length, iv .i64 (v : Nat)] [(bk 29, .blk (.app 1 g.lat.length [.bools pl]))] (bv (g.nextR pl v)) [(bk 29, .blk (.app 1 g.lat.length [.bools pl]))] [29] := by
  have hn1 := h.n
  have hm1 := h.m
  refine fnSpec_of (rs := [.tmp 6]) Try.func31 rfl rfl (Nat.le_of_ble_eq_true rfl) (odd_of rfl) fun E hk hn => ?_
  apply WPA.seq
  apply WPA.region
  · apply Trace.pu [] (.assign (.plain rfl))
    exact .nil _
  · exact keepOK_of hk hn rfl
  apply WPA.seq
  apply WPA.seq
  apply WPA.region
  · apply Trace.pu [] (.assign (.plain rfl))
    exact .nil _
  · exact keepOK_of hk hn rfl
  apply WPA.block
  refine WPA.loop (σ := Nat) (fun i => [(sl 0, .av (.d g.mD)), (sl 1, .av (.own 29 g.lat.length)), (sl 2, .av (iv .i64 (v))), (sl 7, .av (iv .i64 (i))), (bk 29, .blk (.app 1 g.lat.length [.bools pl]))]) (fun i => i ≤ g.lat.length ∧ ∀ w, w < i → g.heldR pl v w = false) (fun i => g.lat.length - i) 0
    (St.le_cons rfl (St.le_cons rfl (St.le_cons rfl (St.le_cons rfl (St.le_cons rfl (St.le_nil _)))))) ⟨Nat.zero_le _, fun j hj => by omega⟩ fun i hi => ?_
  apply WPA.seq
  apply WPA.seq
  apply WPA.region
  · apply Trace.pu [] (.move (.plain rfl))
    apply Trace.pu [] (.move (.plain rfl))
    apply Trace.pu [] (.len rfl Try.underlying44 (.plain rfl) rfl)
    apply Trace.pu [] (.cmp (.plain rfl) (.plain rfl) rfl)
    exact .nil _
  · exact keepOK_of hk hn rfl
  refine WPA.cond rfl (fun hc1 => ?_) (fun hc1 => ?_)
  · have hlt : i < g.lat.length := by simpa using hc1
    have hmi := markR_len g i g.lat.length
    have hmv := markR_len g v g.lat.length
    have hhe : g.heldR pl v i = (bif (bif (g.markR i g.lat.length).getD v false then !(g.markR v g.lat.length).getD i false else false) then !pl.getD i false else false) := by
      unfold Gr.heldR Gr.rch
      rw [bif_and', bif_and']
    apply WPA.skip
    apply WPA.seq
    apply WPA.block
    apply WPA.seq
    apply WPA.region
    · apply Trace.pu [] (.move (.plain rfl))
      apply Trace.pu [] (.move (.plain rfl))
      first | apply Trace.pu [] (.indexRows el44 (.plain rfl) (.plain rfl) (fun _ => ⟨by omega, by omega⟩)) | apply Trace.pu [] (.indexOwn el44 (.plain rfl) (.plain rfl) (fun _ => ⟨by omega, by omega⟩)) | apply Trace.pu [] (.indexSl el44 (.plain rfl) (.plain rfl) (fun _ => ⟨by omega, by omega⟩))
      apply Trace.pu [] ((Pure.loadRp1 ty45 (.plain rfl) rfl).to (y := .d (boolsD (g.markR i g.lat.length))) rfl)
      apply Trace.pu [] (.move (.plain rfl))
      first | apply Trace.pu [] (.indexRows el45 (.plain rfl) (.plain rfl) (fun _ => ⟨by omega, by omega⟩)) | apply Trace.pu [] (.indexOwn el45 (.plain rfl) (.plain rfl) (fun _ => ⟨by omega, by omega⟩)) | apply Trace.pu [] (.indexSl el45 (.plain rfl) (.plain rfl) (fun _ => ⟨by omega, by omega⟩))
      first | apply Trace.pu [_] (.loadLoc1D ty4 (.plain rfl) rfl rfl) | apply Trace.pu [_] (.loadLoc1 ty4 (.plain rfl) rfl rfl) | apply Trace.pu [] (.loadRp1 ty4 (.plain rfl) rfl) | apply Trace.pu [_] (.loadCol1 ty4 (.plain rfl) rfl rfl rfl (fun _ => by omega))
      apply Trace.pu [] (.move (.plain rfl))
      apply Trace.pg [] rfl (.move (.plain rfl))
      apply Trace.pg [] rfl (.move (.plain rfl))
      first | apply Trace.pg [] rfl (.indexRows el44 (.gd rfl (fun h => h)) (.gd rfl (fun h => h)) (fun _ => ⟨by omega, by omega⟩)) | apply Trace.pg [] rfl (.indexOwn el44 (.gd rfl (fun h => h)) (.gd rfl (fun h => h)) (fun _ => ⟨by omega, by omega⟩)) | apply Trace.pg [] rfl (.indexSl el44 (.gd rfl (fun h => h)) (.gd rfl (fun h => h)) (fun _ => ⟨by omega, by omega⟩))
      apply Trace.pg [] rfl ((Pure.loadRp1 ty45 (.gd rfl (fun h => h)) rfl).to (y := .d (boolsD (g.markR v g.lat.length))) rfl)
      apply Trace.pg [] rfl (.move (.plain rfl))
      first | apply Trace.pg [] rfl (.indexRows el45 (.gd rfl (fun h => h)) (.gd rfl (fun h => h)) (fun _ => ⟨by omega, by omega⟩)) | apply Trace.pg [] rfl (.indexOwn el45 (.gd rfl (fun h => h)) (.gd rfl (fun h => h)) (fun _ => ⟨by omega, by omega⟩)) | apply Trace.pg [] rfl (.indexSl el45 (.gd rfl (fun h => h)) (.gd rfl (fun h => h)) (fun _ => ⟨by omega, by omega⟩))
      first | apply Trace.pg [_] rfl (.loadLoc1D ty4 (.gd rfl (fun h => h)) rfl rfl) | apply Trace.pg [_] rfl (.loadLoc1 ty4 (.gd rfl (fun h => h)) rfl rfl) | apply Trace.pg [] rfl (.loadRp1 ty4 (.gd rfl (fun h => h)) rfl) | apply Trace.pg [_] rfl (.loadCol1 ty4 (.gd rfl (fun h => h)) rfl rfl rfl (fun _ => by omega))
      apply Trace.pg [] rfl (.not (.gd rfl (fun h => h)))
      apply Trace.pu [] (.pick (.plain rfl) (.gd rfl (by simp)) (.plain rfl))
      apply Trace.pu [] (.move (.plain rfl))
      apply Trace.pg [] rfl (.move (.plain rfl))
      apply Trace.pg [] rfl (.move (.plain rfl))
      first | apply Trace.pg [] rfl (.indexRows el45 (.gd rfl (fun h => h)) (.gd rfl (fun h => h)) (fun _ => ⟨by omega, by omega⟩)) | apply Trace.pg [] rfl (.indexOwn el45 (.gd rfl (fun h => h)) (.gd rfl (fun h => h)) (fun _ => ⟨by omega, by omega⟩)) | apply Trace.pg [] rfl (.indexSl el45 (.gd rfl (fun h => h)) (.gd rfl (fun h => h)) (fun _ => ⟨by omega, by omega⟩))
      first | apply Trace.pg [_] rfl (.loadLoc1D ty4 (.gd rfl (fun h => h)) rfl rfl) | apply Trace.pg [_] rfl (.loadLoc1 ty4 (.gd rfl (fun h => h)) rfl rfl) | apply Trace.pg [] rfl (.loadRp1 ty4 (.gd rfl (fun h => h)) rfl) | apply Trace.pg [_] rfl (.loadCol1 ty4 (.gd rfl (fun h => h)) rfl rfl rfl (fun _ => by omega))
      apply Trace.pg [] rfl (.not (.gd rfl (fun h => h)))
      apply Trace.pu [] (.pick (.plain rfl) (.gd rfl (by simp)) (.plain rfl))
      exact .nil _
    · exact keepOK_of hk hn rfl
    refine WPA.cond rfl (fun hc2 => ?_) (fun hc2 => ?_)
    · apply WPA.seq
      apply WPA.region
      · apply Trace.pu [] (.assign (.plain rfl))
        exact .nil _
      · exact keepOK_of hk hn rfl
      apply WPA.ret
      refine ⟨.inr rfl, ⟨_, (.cons (.tmp rfl) .nil), ?_⟩, blks_of (.cons rfl (.nil))⟩
      have hbk : g.heldR pl v i = true := by rw [hhe]; exact hc2
      have : g.nextR pl v = false := List.all_eq_false.2 ⟨i, by simpa using hlt, by rw [hbk]; simp⟩
      rw [this]; rfl
    · have hbk : g.heldR pl v i = false := by rw [hhe]; exact hc2
      apply WPA.skip
      apply WPA.region
      · apply Trace.pu [] (.move (.plain rfl))
        apply Trace.pu [] (.arith (.plain rfl) (.plain rfl) rfl (fun _ => bd64 (by omega)))
        apply Trace.pu [] (.assign (.plain rfl))
        exact .nil _
      · exact keepOK_of hk hn rfl
      exact ⟨i + 1, ⟨by omega, fun j hj => by
        by_cases e : j = i
        · rw [e]; exact hbk
        · exact hi.2 j (by omega)⟩, by omega, St.le_cons rfl (St.le_cons rfl (St.le_cons rfl (St.le_cons (slI (by omega)) (St.le_cons rfl (St.le_nil _)))))⟩
  · apply WPA.exit
    apply WPA.seq
    apply WPA.region
    · apply Trace.pu [] (.assign (.plain rfl))
      exact .nil _
    · exact keepOK_of hk hn rfl
    apply WPA.ret
    refine ⟨.inr rfl, ⟨_, (.cons (.tmp rfl) .nil), ?_⟩, blks_of (.cons rfl (.nil))⟩
    have : g.nextR pl v = true := List.all_eq_true.2 fun j hj => by
      rw [hi.2 j (by
        have : ¬ ((i : Int) < g.lat.length) := by simpa using hc1
        have hj : j < g.lat.length := by simpa using hj
        omega)]
      rfl
    rw [this]; rfl

/-- soundpost/soundpostref22.Parts -/
theorem spec12 (g : Gr) (hz : g.Sz) : FnSpec Try.prog 12 [g.av] [] (.tup ([nextD (if g.check = 0 then g.partsR else []), .v (.int .i64 g.check)].map .d)) [] [] := by
  have hn1 := hz.n
  have hn2 := hz.m
  refine fnSpec_of (rs := [.tmp 2, .tmp 3]) Try.func12 rfl rfl (Nat.le_of_ble_eq_true rfl) (by simp [St.get]) fun E hk hn => ?_
  apply WPA.seq
  apply WPA.region
  · first | apply Trace.boxD 1 [] (.plain rfl) rfl rfl | apply Trace.box 1 [] (.plain rfl) rfl rfl rfl
    apply Trace.pu [] (.assign (.plain rfl))
    apply Trace.pu [] (.assign (.plain rfl))
    exact .nil _
  · exact keepOK_of hk hn rfl
  apply WPA.seq
  apply WPA.region
  · first | apply Trace.pu [_] (.loadAllD ty25 (.plain rfl) rfl (by simp)) | apply Trace.pu [_] (.loadLocD ty25 (.plain rfl) rfl (fun _ => by simp)) | apply Trace.pu [_] (.loadLoc ty25 (.plain rfl) rfl (fun _ => Nat.le_of_ble_eq_true rfl)) | apply Trace.pu [] (.loadRp ty25 (.plain rfl) (fun _ => by decide)) | apply Trace.pu [] (.loadRp ty25 (.plain rfl) (fun _ => Nat.le_of_ble_eq_true rfl)) | apply Trace.pu [_] (.loadCol ty25 (.plain rfl) rfl rfl (fun _ => by decide) (fun _ => by omega)) | apply Trace.pu [_] (.loadArr ty25 (.plain rfl) rfl)
    apply Trace.cu (callArgs0 (.cons (.plain rfl) .nil)) (spec17 g hz) en17
    apply Trace.pu [] (.assign (.plain rfl))
    exact .nil _
  · exact keepOK_of hk hn rfl
  apply WPA.seq
  apply WPA.seq
  apply WPA.region
  · apply Trace.pu [] (.move (.plain rfl))
    apply Trace.pu [] (.cmp (.plain rfl) (.plain rfl) rfl)
    exact .nil _
  · exact keepOK_of hk hn rfl
  refine WPA.cond rfl (fun hc1 => ?_) (fun hc1 => ?_)
  · have hC : g.check ≠ 0 := by simpa using hc1
    apply WPA.seq
    apply WPA.region
    · apply Trace.pu [] (.move (.plain rfl))
      apply Trace.pu [] (.assign (.plain rfl))
      apply Trace.pu [] (.assign (.plain rfl))
      exact .nil _
    · exact keepOK_of hk hn rfl
    refine WPA.ghost (Ghost.slotEmp (t := 2) (n := 1) (g := fun i => [rowD (([] : RL).getD i [])]) rfl) ?_
    apply WPA.ret
    refine ⟨.inr rfl, ⟨_, (.cons (.tmp rfl) (.cons (.tmp rfl) .nil)), ?_⟩, by simp [St.get]⟩
    rw [if_neg hC]; rfl
  · have hC : g.check = 0 := by simpa using hc1
    have hok := check_ok2 hC
    have hm5 := hok.m
    have hn5 := hok.n
    apply WPA.skip
    apply WPA.seq
    apply WPA.region
    · apply Trace.pu [] (.fieldAddr fl25_0 (.plain rfl) rfl)
      first | apply Trace.pu [_] (.loadLoc1D ty22 (.plain rfl) rfl rfl) | apply Trace.pu [_] (.loadLoc1 ty22 (.plain rfl) rfl rfl) | apply Trace.pu [] (.loadRp1 ty22 (.plain rfl) rfl) | apply Trace.pu [_] (.loadCol1 ty22 (.plain rfl) rfl rfl rfl (fun _ => by omega))
      apply Trace.pu [] (.len rfl Try.underlying22 (.plain rfl) rfl)
      apply Trace.pu [] (.assign (.plain rfl))
      exact .nil _
    · exact keepOK_of hk hn rfl
    apply WPA.seq
    apply WPA.region
    · apply Trace.buildSlice 22 [] so44 zo45 rfl (by decide) (by decide) (.nil _ _) rfl rfl rfl
      apply Trace.pu [] (.assign (.plain rfl))
      exact .nil _
    · exact keepOK_of hk hn rfl
    apply WPA.seq
    apply WPA.seq
    apply WPA.region
    · apply Trace.pu [] (.assign (.plain rfl))
      exact .nil _
    · exact keepOK_of hk hn rfl
    apply WPA.block
    refine WPA.loop (σ := Nat) (fun i => [(sl 1, .av (.loc 1 0)), (sl 5, .av (iv .i64 (g.lat.length))), (sl 6, .av (.own 22 i)), (sl 7, .av (iv .i64 (i))), (bk 1, .blk (.data g.ds)), (bk 22, .blk (.app 1 i [.ds (mRows g i)]))]) (fun i => i ≤ g.lat.length) (fun i => g.lat.length - i) 0
      (St.le_cons rfl (St.le_cons rfl (St.le_cons rfl (St.le_cons rfl (St.le_cons rfl (St.le_cons rfl (St.le_nil _))))))) (Nat.zero_le _) fun i hi => ?_
    apply WPA.seq
    apply WPA.seq
    apply WPA.region
    · apply Trace.pu [] (.move (.plain rfl))
      apply Trace.pu [] (.move (.plain rfl))
      apply Trace.pu [] (.cmp (.plain rfl) (.plain rfl) rfl)
      exact .nil _
    · exact keepOK_of hk hn rfl
    refine WPA.cond rfl (fun hc2 => ?_) (fun hc2 => ?_)
    · have hlt : i < g.lat.length := by simpa using hc2
      apply WPA.skip
      apply WPA.seq
      apply WPA.block
      apply WPA.region
      · apply Trace.pu [] (.move (.plain rfl))
        first | apply Trace.pu [_] (.loadAllD ty25 (.plain rfl) rfl (by simp)) | apply Trace.pu [_] (.loadLocD ty25 (.plain rfl) rfl (fun _ => by simp)) | apply Trace.pu [_] (.loadLoc ty25 (.plain rfl) rfl (fun _ => Nat.le_of_ble_eq_true rfl)) | apply Trace.pu [] (.loadRp ty25 (.plain rfl) (fun _ => by decide)) | apply Trace.pu [] (.loadRp ty25 (.plain rfl) (fun _ => Nat.le_of_ble_eq_true rfl)) | apply Trace.pu [_] (.loadCol ty25 (.plain rfl) rfl rfl (fun _ => by decide) (fun _ => by omega)) | apply Trace.pu [_] (.loadArr ty25 (.plain rfl) rfl)
        apply Trace.pu [] (.move (.plain rfl))
        apply Trace.cu (callArgs0 (.cons (.plain rfl) (.cons (.plain rfl) .nil))) (spec30 hok hlt) en30
        apply Trace.buildSlice 32 [] so44 zo45 rfl (by decide) (by decide) (.cons (.plain rfl) rfl rfl (Nat.le_of_ble_eq_true rfl) (.nil _ _)) rfl rfl rfl
        apply Trace.append 33 [bk 22, bk 32, sl 28, sl 32] ap44 kd44 (by decide) (.own (.plain rfl) rfl) (.own (.plain rfl) rfl) (Col.ones rfl) (labs_ok rfl) (by omega) (by omega) rfl rfl
        apply Trace.pu [] (.assign (.plain rfl))
        exact .nil _
      · exact keepOK_of hk hn rfl
      refine WPA.ghost (Ghost.swap 22 33 (by rw [hk]; decide) (by rw [hk]; decide) rfl) ?_
      apply WPA.region
      · apply Trace.pu [] (.move (.plain rfl))
        apply Trace.pu [] (.arith (.plain rfl) (.plain rfl) rfl (fun _ => bd64 (by omega)))
        apply Trace.pu [] (.assign (.plain rfl))
        exact .nil _
      · exact keepOK_of hk hn rfl
      refine ⟨i + 1, by omega, by omega, ?_⟩
      exact (St.le_cons rfl (St.le_cons rfl (St.le_cons rfl (St.le_cons (slI (by omega)) (St.le_cons rfl (St.le_cons (app_d rfl (mRows_succ g i).symm) (St.le_nil _)))))))
    · have him : i = g.lat.length := by
        have : ¬ ((i : Int) < g.lat.length) := by simpa using hc2
        omega
      subst him
      refine WPA.ghost (Ghost.freezeAs (t := 6) (l := 22) (g := fun i => [boolsD (g.markR i g.lat.length)]) rfl rfl (fun i hi => by show [Col.at (.ds (mRows g g.lat.length)) i] = _; rw [mRows_at hi])) ?_
      apply WPA.exit
      apply WPA.seq
      apply WPA.region
      · apply Trace.pu [] (.move (.plain rfl))
        apply Trace.makeSlice 35 [] so45 by4 zo4 rfl (by decide) (.plain rfl) (.plain rfl) ⟨by omega, by omega⟩ (by omega) (by omega) rfl rfl
        apply Trace.pu [] (.assign (.plain rfl))
        exact .nil _
      · exact keepOK_of hk hn rfl
      apply WPA.seq
      apply WPA.region
      · apply Trace.buildSlice 36 [] so28 zo22 rfl (by decide) (by decide) (.nil _ _) rfl rfl rfl
        apply Trace.pu [] (.assign (.plain rfl))
        exact .nil _
      · exact keepOK_of hk hn rfl
      apply WPA.seq
      apply WPA.seq
      apply WPA.region
      · apply Trace.pu [] (.assign (.plain rfl))
        exact .nil _
      · exact keepOK_of hk hn rfl
      apply WPA.block
      refine WPA.loop (σ := Nat) (fun i => [(sl 1, .av (.loc 1 0)), (sl 5, .av (iv .i64 (g.lat.length))), (sl 6, .av (.d g.mD)), (sl 8, .av (.own 35 g.lat.length)), (sl 9, .av (.own 36 (g.refTo i).2.length)), (sl 10, .av (iv .i64 (total (g.refTo i).2))), (bk 1, .blk (.data g.ds)), (bk 35, .blk (.app 1 g.lat.length [.bools (g.refTo i).1])), (bk 36, .blk (.app 1 (g.refTo i).2.length [.ds (dsC (g.refTo i).2)]))]) (fun i => i ≤ g.lat.length) (fun i => g.lat.length - i) 0
        (St.le_cons rfl (St.le_cons rfl (St.le_cons rfl (St.le_cons rfl (St.le_cons rfl (St.le_cons rfl (St.le_cons rfl (St.le_cons rfl (St.le_cons rfl (St.le_nil _)))))))))) (Nat.zero_le _) fun k hk0 => ?_
      apply WPA.seq
      apply WPA.seq
      apply WPA.region
      · apply Trace.pu [] (.move (.plain rfl))
        apply Trace.pu [] (.move (.plain rfl))
        apply Trace.pu [] (.cmp (.plain rfl) (.plain rfl) rfl)
        exact .nil _
      · exact keepOK_of hk hn rfl
      refine WPA.cond rfl (fun hc3 => ?_) (fun hc3 => ?_)
      · have hRI := refTo_inv hok k
        have hfw := refTo_few hok k
        have hRs : g.refTo (k + 1) = g.stepR (g.refTo k) := rfl
        have hol := refTo_lenle g k
        have htl : total (g.refTo k).2 < g.lat.length := by
          have : (total (g.refTo k).2 : Int) < g.lat.length := of_decide_eq_true hc3
          omega
        generalize g.refTo k = s at hRI hfw hRs hol htl ⊢
        have htt := hRI.tot
        have hsl := hRI.len
        obtain ⟨x, hfx⟩ := hRI.more hok (by omega)
        have hkn : k < g.lat.length := by omega
        apply WPA.skip
        apply WPA.block
        apply WPA.seq
        apply WPA.region
        · apply Trace.pu [] (.assign (.plain rfl))
          exact .nil _
        · exact keepOK_of hk hn rfl
        apply WPA.block
        refine WPA.loop (σ := Nat) (fun i => [(sl 1, .av (.loc 1 0)), (sl 5, .av (iv .i64 (g.lat.length))), (sl 6, .av (.d g.mD)), (sl 8, .av (.own 35 g.lat.length)), (sl 9, .av (.own 36 (s).2.length)), (sl 10, .av (iv .i64 (total (s).2))), (sl 11, .av (iv .i64 (i))), (bk 1, .blk (.data g.ds)), (bk 35, .blk (.app 1 g.lat.length [.bools (s).1])), (bk 36, .blk (.app 1 (s).2.length [.ds (dsC (s).2)]))]) (fun i => i ≤ g.lat.length ∧ ∀ w, w < i → g.candR s.1 w = false) (fun i => g.lat.length - i) 0
          (St.le_cons rfl (St.le_cons rfl (St.le_cons rfl (St.le_cons rfl (St.le_cons rfl (St.le_cons rfl (St.le_cons rfl (St.le_cons rfl (St.le_cons rfl (St.le_cons rfl (St.le_nil _))))))))))) ⟨Nat.zero_le _, fun w hw => by omega⟩ fun v hv => ?_
        apply WPA.seq
        apply WPA.seq
        apply WPA.region
        · apply Trace.pu [] (.move (.plain rfl))
          apply Trace.pu [] (.move (.plain rfl))
          apply Trace.pu [] (.cmp (.plain rfl) (.plain rfl) rfl)
          exact .nil _
        · exact keepOK_of hk hn rfl
        refine WPA.cond rfl (fun hc4 => ?_) (fun hc4 => ?_)
        · have hvn : v < g.lat.length := by simpa using hc4
          apply WPA.skip
          apply WPA.seq
          apply WPA.block
          apply WPA.seq
          apply WPA.seq
          rcases two_ways (seen s.1 v) with hsv | hsv
          · apply WPA.region
            · apply Trace.pu [] (.move (.plain rfl))
              apply Trace.pu [] (.move (.plain rfl))
              first | apply Trace.pu [] (.indexRows el45 (.plain rfl) (.plain rfl) (fun _ => ⟨by omega, by omega⟩)) | apply Trace.pu [] (.indexOwn el45 (.plain rfl) (.plain rfl) (fun _ => ⟨by omega, by omega⟩)) | apply Trace.pu [] (.indexSl el45 (.plain rfl) (.plain rfl) (fun _ => ⟨by omega, by omega⟩))
              apply Trace.pu [35] ((Pure.loadCol1 ty4 (.plain rfl) rfl rfl rfl (fun _ => by omega)).to (y := bv true) (by exact congrArg bv (show s.1.getD ((v : Nat) : Int).toNat false = true from by simpa [seen] using hsv)))
              apply Trace.pu [] (.move (.plain rfl))
              apply Trace.pg [] rfl (Pure.never (x := bv true) (by intro d h; cases h))
              apply Trace.pg [] rfl (Pure.never (x := bv true) (by intro d h; cases h))
              apply Trace.pg [] rfl (Pure.never (x := bv true) (by intro d h; cases h))
              apply Trace.pg [] rfl (Pure.never (x := bv true) (by intro d h; cases h))
              apply Trace.pg [] rfl (Pure.never (x := bv true) (by intro d h; cases h))
              apply Trace.pu [] (.pick (.plain rfl) (.plain rfl) (.gd rfl (by simp)))
              exact .nil _
            · exact keepOK_of hk hn rfl
            refine WPA.cond rfl (fun hc5 => ?_) (fun hc5 => ?_)
            · have hrd : g.candR s.1 v = false := by unfold Gr.candR; rw [hsv]; rfl
              apply WPA.exit
              apply WPA.region
              · apply Trace.pu [] (.move (.plain rfl))
                apply Trace.pu [] (.arith (.plain rfl) (.plain rfl) rfl (fun _ => bd64 (by omega)))
                apply Trace.pu [] (.assign (.plain rfl))
                exact .nil _
              · exact keepOK_of hk hn rfl
              refine ⟨v + 1, ⟨by omega, fun w hw => by
                by_cases e : w = v
                · rw [e]; exact hrd
                · exact hv.2 w (by omega)⟩, by omega, ?_⟩
              exact (St.le_cons rfl (St.le_cons rfl (St.le_cons rfl (St.le_cons rfl (St.le_cons rfl (St.le_cons rfl (St.le_cons (slI (by omega)) (St.le_cons rfl (St.le_cons rfl (St.le_cons rfl (St.le_nil _)))))))))))
            · cases hc5
          · apply WPA.region
            · apply Trace.pu [] (.move (.plain rfl))
              apply Trace.pu [] (.move (.plain rfl))
              first | apply Trace.pu [] (.indexRows el45 (.plain rfl) (.plain rfl) (fun _ => ⟨by omega, by omega⟩)) | apply Trace.pu [] (.indexOwn el45 (.plain rfl) (.plain rfl) (fun _ => ⟨by omega, by omega⟩)) | apply Trace.pu [] (.indexSl el45 (.plain rfl) (.plain rfl) (fun _ => ⟨by omega, by omega⟩))
              apply Trace.pu [35] ((Pure.loadCol1 ty4 (.plain rfl) rfl rfl rfl (fun _ => by omega)).to (y := bv false) (by exact congrArg bv (show s.1.getD ((v : Nat) : Int).toNat false = false from by simpa [seen] using hsv)))
              apply Trace.pu [] (.move (.plain rfl))
              apply Trace.og rfl
              apply Trace.pu [] (.move (.plain rfl))
              apply Trace.og rfl
              apply Trace.pu [] (.move (.plain rfl))
              apply Trace.og rfl
              apply Trace.pu [] (.move (.plain rfl))
              apply Trace.og rfl
              apply Trace.cb [] [bk 35] (callArgs0 (.cons (.plain rfl) (.cons (.plain rfl) (.cons (.plain rfl) .nil)))) ((spec31 hok hsl hvn).as 29 35 rfl rfl rfl rfl rfl rfl rfl) en31 (.cons rfl (.nil)) rfl rfl
              apply Trace.og rfl
              apply Trace.pu [] (.not (.plain rfl))
              apply Trace.pu [] (.pick (.plain rfl) (.plain rfl) (.plain rfl))
              exact .nil _
            · exact keepOK_of hk hn rfl
            refine WPA.cond rfl (fun hc6 => ?_) (fun hc6 => ?_)
            · have hrd : g.candR s.1 v = false := by
                have h9 : (!g.nextR s.1 v) = true := hc6
                unfold Gr.candR
                rw [Bool.not_eq_true'] at h9
                rw [h9]; simp
              apply WPA.exit
              apply WPA.region
              · apply Trace.pu [] (.move (.plain rfl))
                apply Trace.pu [] (.arith (.plain rfl) (.plain rfl) rfl (fun _ => bd64 (by omega)))
                apply Trace.pu [] (.assign (.plain rfl))
                exact .nil _
              · exact keepOK_of hk hn rfl
              refine ⟨v + 1, ⟨by omega, fun w hw => by
                by_cases e : w = v
                · rw [e]; exact hrd
                · exact hv.2 w (by omega)⟩, by omega, ?_⟩
              exact (St.le_cons rfl (St.le_cons rfl (St.le_cons rfl (St.le_cons rfl (St.le_cons rfl (St.le_cons rfl (St.le_cons (slI (by omega)) (St.le_cons rfl (St.le_cons rfl (St.le_cons rfl (St.le_nil _)))))))))))
            · have hnx : g.nextR s.1 v = true := by
                have h9 : (!g.nextR s.1 v) = false := hc6
                rwa [Bool.not_eq_false'] at h9
              have hf : g.firstR s.1 = some v := firstR_some.2 ⟨hvn, ⟨hsv, hnx⟩, hv.2⟩
              obtain ⟨hstep, hRI2, hmem, _⟩ := hRI.step hok hf
              have hpm := List.length_pos_of_mem hmem
              have htot2 := hRI2.tot
              rw [hstep] at htot2 hRs
              have htot2 : unseen (g.plTo s.1 v g.lat.length) + total (s.2 ++ [g.partTo v g.lat.length]) = g.lat.length := htot2
              rw [total_push] at htot2
              apply WPA.skip
              apply WPA.seq
              apply WPA.region
              · apply Trace.buildSlice 56 [] so22 zo3 rfl (by decide) (by decide) (.nil _ _) rfl rfl rfl
                apply Trace.pu [] (.assign (.plain rfl))
                exact .nil _
              · exact keepOK_of hk hn rfl
              apply WPA.seq
              apply WPA.seq
              refine WPA.ghost (Ghost.dsInts (l := 56) (len := 0) (k := .i64) (xs := []) (ds := []) rfl rfl) ?_
              apply WPA.region
              · apply Trace.pu [] (.assign (.plain rfl))
                exact .nil _
              · exact keepOK_of hk hn rfl
              apply WPA.block
              refine WPA.loop (σ := Nat) (fun i => [(sl 1, .av (.loc 1 0)), (sl 5, .av (iv .i64 (g.lat.length))), (sl 6, .av (.d g.mD)), (sl 8, .av (.own 35 g.lat.length)), (sl 9, .av (.own 36 s.2.length)), (sl 10, .av (iv .i64 (total s.2))), (sl 11, .av (iv .i64 (v))), (sl 12, .av (.own 56 (g.partTo v i).length)), (sl 13, .av (iv .i64 (i))), (bk 1, .blk (.data g.ds)), (bk 35, .blk (.app 1 g.lat.length [.bools (g.plTo s.1 v i)])), (bk 36, .blk (.app 1 s.2.length [.ds (dsC s.2)])), (bk 56, .blk (.app 1 (g.partTo v i).length [.ints .i64 (g.partTo v i)]))]) (fun i => i ≤ g.lat.length) (fun i => g.lat.length - i) 0
                (St.le_cons rfl (St.le_cons rfl (St.le_cons rfl (St.le_cons rfl (St.le_cons rfl (St.le_cons rfl (St.le_cons rfl (St.le_cons rfl (St.le_cons rfl (St.le_cons rfl (St.le_cons rfl (St.le_cons rfl (St.le_cons rfl (St.le_nil _)))))))))))))) (Nat.zero_le _) fun i hi => ?_
              apply WPA.seq
              apply WPA.seq
              apply WPA.region
              · apply Trace.pu [] (.move (.plain rfl))
                apply Trace.pu [] (.move (.plain rfl))
                apply Trace.pu [] (.cmp (.plain rfl) (.plain rfl) rfl)
                exact .nil _
              · exact keepOK_of hk hn rfl
              refine WPA.cond rfl (fun hc7 => ?_) (fun hc7 => ?_)
              · have hlt : i < g.lat.length := by simpa using hc7
                have hmi := markR_len g i g.lat.length
                have hmv := markR_len g v g.lat.length
                have hps := partTo_succ g v i
                have hpl := plTo_len g s.1 v i
                have hpn := partTo_len g v i
                have hpx : g.plTo s.1 v (i + 1) = if g.mutR v i = true then (g.plTo s.1 v i).set i true else g.plTo s.1 v i := rfl
                have hmu : g.mutR v i = (bif (g.markR v g.lat.length).getD i false then (g.markR i g.lat.length).getD v false else false) := by
                  unfold Gr.mutR Gr.rch
                  rw [bif_and']
                
                apply WPA.skip
                apply WPA.seq
                apply WPA.block
                apply WPA.seq
                apply WPA.region
                · apply Trace.pu [] (.move (.plain rfl))
                  apply Trace.pu [] (.move (.plain rfl))
                  first | apply Trace.pu [] (.indexRows el44 (.plain rfl) (.plain rfl) (fun _ => ⟨by omega, by omega⟩)) | apply Trace.pu [] (.indexOwn el44 (.plain rfl) (.plain rfl) (fun _ => ⟨by omega, by omega⟩)) | apply Trace.pu [] (.indexSl el44 (.plain rfl) (.plain rfl) (fun _ => ⟨by omega, by omega⟩))
                  apply Trace.pu [] ((Pure.loadRp1 ty45 (.plain rfl) rfl).to (y := .d (boolsD (g.markR v g.lat.length))) rfl)
                  apply Trace.pu [] (.move (.plain rfl))
                  first | apply Trace.pu [] (.indexRows el45 (.plain rfl) (.plain rfl) (fun _ => ⟨by omega, by omega⟩)) | apply Trace.pu [] (.indexOwn el45 (.plain rfl) (.plain rfl) (fun _ => ⟨by omega, by omega⟩)) | apply Trace.pu [] (.indexSl el45 (.plain rfl) (.plain rfl) (fun _ => ⟨by omega, by omega⟩))
                  first | apply Trace.pu [_] (.loadLoc1D ty4 (.plain rfl) rfl rfl) | apply Trace.pu [_] (.loadLoc1 ty4 (.plain rfl) rfl rfl) | apply Trace.pu [] (.loadRp1 ty4 (.plain rfl) rfl) | apply Trace.pu [_] (.loadCol1 ty4 (.plain rfl) rfl rfl rfl (fun _ => by omega))
                  apply Trace.pu [] (.move (.plain rfl))
                  apply Trace.pg [] rfl (.move (.plain rfl))
                  apply Trace.pg [] rfl (.move (.plain rfl))
                  first | apply Trace.pg [] rfl (.indexRows el44 (.gd rfl (fun h => h)) (.gd rfl (fun h => h)) (fun _ => ⟨by omega, by omega⟩)) | apply Trace.pg [] rfl (.indexOwn el44 (.gd rfl (fun h => h)) (.gd rfl (fun h => h)) (fun _ => ⟨by omega, by omega⟩)) | apply Trace.pg [] rfl (.indexSl el44 (.gd rfl (fun h => h)) (.gd rfl (fun h => h)) (fun _ => ⟨by omega, by omega⟩))
                  apply Trace.pg [] rfl ((Pure.loadRp1 ty45 (.gd rfl (fun h => h)) rfl).to (y := .d (boolsD (g.markR i g.lat.length))) rfl)
                  apply Trace.pg [] rfl (.move (.plain rfl))
                  first | apply Trace.pg [] rfl (.indexRows el45 (.gd rfl (fun h => h)) (.gd rfl (fun h => h)) (fun _ => ⟨by omega, by omega⟩)) | apply Trace.pg [] rfl (.indexOwn el45 (.gd rfl (fun h => h)) (.gd rfl (fun h => h)) (fun _ => ⟨by omega, by omega⟩)) | apply Trace.pg [] rfl (.indexSl el45 (.gd rfl (fun h => h)) (.gd rfl (fun h => h)) (fun _ => ⟨by omega, by omega⟩))
                  first | apply Trace.pg [_] rfl (.loadLoc1D ty4 (.gd rfl (fun h => h)) rfl rfl) | apply Trace.pg [_] rfl (.loadLoc1 ty4 (.gd rfl (fun h => h)) rfl rfl) | apply Trace.pg [] rfl (.loadRp1 ty4 (.gd rfl (fun h => h)) rfl) | apply Trace.pg [_] rfl (.loadCol1 ty4 (.gd rfl (fun h => h)) rfl rfl rfl (fun _ => by omega))
                  apply Trace.pu [] (.pick (.plain rfl) (.gd rfl (by simp)) (.plain rfl))
                  exact .nil _
                · exact keepOK_of hk hn rfl
                refine WPA.cond rfl (fun hc8 => ?_) (fun hc8 => ?_)
                · have hm : g.mutR v i = true := by rw [hmu]; exact hc8
                  rw [if_pos hm] at hps hpx
                  apply WPA.seq
                  apply WPA.region
                  · apply Trace.pu [] (.move (.plain rfl))
                    apply Trace.pu [] (.move (.plain rfl))
                    apply Trace.buildSlice 80 [] so22 zo3 rfl (by decide) (by decide) (.cons (.plain rfl) rfl rfl (Nat.le_of_ble_eq_true rfl) (.nil _ _)) rfl rfl rfl
                    apply Trace.append 81 [bk 56, bk 80, sl 78, sl 80] ap22 kd22 (by decide) (.own (.plain rfl) rfl) (.own (.plain rfl) rfl) (Col.ones rfl) (labs_ok rfl) (by omega) (by omega) rfl rfl
                    apply Trace.pu [] (.assign (.plain rfl))
                    exact .nil _
                  · exact keepOK_of hk hn rfl
                  apply WPA.region
                  · apply Trace.pu [] (.move (.plain rfl))
                    apply Trace.pu [] (.move (.plain rfl))
                    first | apply Trace.pu [] (.indexRows el45 (.plain rfl) (.plain rfl) (fun _ => ⟨by omega, by omega⟩)) | apply Trace.pu [] (.indexOwn el45 (.plain rfl) (.plain rfl) (fun _ => ⟨by omega, by omega⟩)) | apply Trace.pu [] (.indexSl el45 (.plain rfl) (.plain rfl) (fun _ => ⟨by omega, by omega⟩))
                    first | apply Trace.storeD ty4 (.plain rfl) (.plain rfl) rfl rfl rfl (by simp [AV.oneB, single]) (Nat.le_of_ble_eq_true rfl) rfl | apply Trace.storeDA ty4 (.plain rfl) (.plain rfl) rfl rfl rfl (by simp [AV.oneB, single]) (Nat.le_of_ble_eq_true rfl) rfl | apply Trace.storeLoc ty4 (.plain rfl) (.plain rfl) rfl rfl rfl (by simp [AV.oneB, single]) (Nat.le_of_ble_eq_true rfl) rfl | apply Trace.storeRow ty4 (.plain rfl) (.plain rfl) rfl rfl rfl rfl (by decide) (by simp [AV.oneB, single]) rfl (by omega)
                    exact .nil _
                  · exact keepOK_of hk hn rfl
                  refine WPA.ghost (Ghost.swap 56 81 (by rw [hk]; decide) (by rw [hk]; decide) rfl) ?_
                  apply WPA.region
                  · apply Trace.pu [] (.move (.plain rfl))
                    apply Trace.pu [] (.arith (.plain rfl) (.plain rfl) rfl (fun _ => bd64 (by omega)))
                    apply Trace.pu [] (.assign (.plain rfl))
                    exact .nil _
                  · exact keepOK_of hk hn rfl
                  refine ⟨i + 1, by omega, by omega, ?_⟩
                  rw [hps, hpx]
                  first
                    | exact (St.le_cons rfl (St.le_cons rfl (St.le_cons rfl (St.le_cons rfl (St.le_cons rfl (St.le_cons rfl (St.le_cons rfl (St.le_cons rfl (St.le_cons (slI (by omega)) (St.le_cons rfl (St.le_cons rfl (St.le_cons rfl (St.le_cons rfl (St.le_nil _))))))))))))))
                    | exact (St.le_cons rfl (St.le_cons rfl (St.le_cons rfl (St.le_cons rfl (St.le_cons rfl (St.le_cons rfl (St.le_cons rfl (St.le_cons (ownS (by simp)) (St.le_cons (slI (by omega)) (St.le_cons rfl (St.le_cons rfl (St.le_cons rfl (St.le_cons (app_n (by simp) rfl) (St.le_nil _))))))))))))))
                · have hm : ¬ g.mutR v i = true := by
                    rw [hmu]
                    intro h9
                    rw [show (bif (g.markR v g.lat.length).getD i false then (g.markR i g.lat.length).getD v false else false) = false from hc8] at h9
                    cases h9
                  rw [if_neg hm] at hps hpx
                  refine WPA.ghost (Ghost.swap 56 81 (by rw [hk]; decide) (by rw [hk]; decide) rfl) ?_
                  apply WPA.skip
                  refine WPA.ghost (Ghost.swap 56 81 (by rw [hk]; decide) (by rw [hk]; decide) rfl) ?_
                  apply WPA.region
                  · apply Trace.pu [] (.move (.plain rfl))
                    apply Trace.pu [] (.arith (.plain rfl) (.plain rfl) rfl (fun _ => bd64 (by omega)))
                    apply Trace.pu [] (.assign (.plain rfl))
                    exact .nil _
                  · exact keepOK_of hk hn rfl
                  refine ⟨i + 1, by omega, by omega, ?_⟩
                  rw [hps, hpx]
                  first
                    | exact (St.le_cons rfl (St.le_cons rfl (St.le_cons rfl (St.le_cons rfl (St.le_cons rfl (St.le_cons rfl (St.le_cons rfl (St.le_cons rfl (St.le_cons (slI (by omega)) (St.le_cons rfl (St.le_cons rfl (St.le_cons rfl (St.le_cons rfl (St.le_nil _))))))))))))))
                    | exact (St.le_cons rfl (St.le_cons rfl (St.le_cons rfl (St.le_cons rfl (St.le_cons rfl (St.le_cons rfl (St.le_cons rfl (St.le_cons (ownS (by simp)) (St.le_cons (slI (by omega)) (St.le_cons rfl (St.le_cons rfl (St.le_cons rfl (St.le_cons (app_n (by simp) rfl) (St.le_nil _))))))))))))))
              · have him : i = g.lat.length := by
                  have : ¬ ((i : Int) < g.lat.length) := by simpa using hc7
                  omega
                subst him
                have hpn := partTo_len g v g.lat.length
                refine WPA.ghost (Ghost.freezeAs (t := 12) (l := 56) (g := fun i => [Col.at (.ints .i64 (g.partTo v g.lat.length)) i]) rfl rfl (fun i hi => rfl)) ?_
                refine WPA.weaken (T := [(sl 1, .av (.loc 1 0)), (sl 5, .av (iv .i64 (g.lat.length))), (sl 6, .av (.d g.mD)), (sl 8, .av (.own 35 g.lat.length)), (sl 9, .av (.own 36 s.2.length)), (sl 10, .av (iv .i64 (total s.2))), (sl 12, .av (.d (intsD (g.partTo v g.lat.length)))), (bk 1, .blk (.data g.ds)), (bk 35, .blk (.app 1 g.lat.length [.bools (g.plTo s.1 v g.lat.length)])), (bk 36, .blk (.app 1 s.2.length [.ds (dsC s.2)]))]) ?_ (St.le_cons rfl (St.le_cons rfl (St.le_cons rfl (St.le_cons rfl (St.le_cons rfl (St.le_cons rfl (St.le_cons rfl (St.le_cons rfl (St.le_cons rfl (St.le_cons rfl (St.le_nil _)))))))))))
                apply WPA.exit
                apply WPA.seq
                apply WPA.region
                · apply Trace.pu [] (.move (.plain rfl))
                  apply Trace.pu [] (.move (.plain rfl))
                  apply Trace.buildSlice 87 [] so28 zo22 rfl (by decide) (by decide) (.cons (.plain rfl) rfl rfl (Nat.le_of_ble_eq_true rfl) (.nil _ _)) rfl rfl rfl
                  apply Trace.append 88 [bk 36, bk 87, sl 85, sl 87] ap28 kd28 (by decide) (.own (.plain rfl) rfl) (.own (.plain rfl) rfl) (Col.ones rfl) (labs_ok rfl) (by omega) (by omega) rfl rfl
                  apply Trace.pu [] (.assign (.plain rfl))
                  exact .nil _
                · exact keepOK_of hk hn rfl
                apply WPA.seq
                refine WPA.ghost (Ghost.swap 36 88 (by rw [hk]; decide) (by rw [hk]; decide) rfl) ?_
                apply WPA.region
                · apply Trace.pu [] (.move (.plain rfl))
                  apply Trace.pu [] (.move (.plain rfl))
                  apply Trace.pu [] (.len rfl Try.underlying22 (.plain rfl) rfl)
                  apply Trace.pu [] (.arith (.plain rfl) (.plain rfl) rfl (fun _ => bd64 (by omega)))
                  apply Trace.pu [] (.assign (.plain rfl))
                  exact .nil _
                · exact keepOK_of hk hn rfl
                apply WPA.exit
                refine ⟨k + 1, by omega, by omega, ?_⟩
                rw [hRs]
                exact (St.le_cons rfl (St.le_cons rfl (St.le_cons rfl (St.le_cons rfl (St.le_cons (ownS (by simp)) (St.le_cons (slI (by rw [total_push]; omega)) (St.le_cons rfl (St.le_cons rfl (St.le_cons (app_d (by simp) (by show dsC s.2 ++ [rowD (g.partTo v g.lat.length)] = dsC (s.2 ++ [g.partTo v g.lat.length]); simp [dsC])) (St.le_nil _))))))))))
        · have hvn : v = g.lat.length := by
            have : ¬ ((v : Int) < g.lat.length) := by simpa using hc4
            omega
          have hx := firstR_some.1 hfx
          have := hv.2 x (by omega)
          unfold Gr.candR at this
          rw [hx.2.1.1, hx.2.1.2] at this
          cases this
      · have hRI := refTo_inv hok k
        have hend : (g.refTo k).2 = g.partsR := refTo_stop hok (by
          have : ¬ ((total (g.refTo k).2 : Int) < g.lat.length) := of_decide_eq_false hc3
          have := hRI.tot
          omega)
        rw [hend]
        refine WPA.ghost (Ghost.freezeAs (t := 9) (l := 36) (g := fun i => [rowD (g.partsR.getD i [])]) rfl rfl (fun i hi => by show [Col.at (.ds (dsC g.partsR)) i] = _; rw [dsC_at hi])) ?_
        apply WPA.exit
        apply WPA.seq
        apply WPA.region
        · apply Trace.pu [] (.move (.plain rfl))
          apply Trace.pu [] (.assign (.plain rfl))
          apply Trace.pu [] (.assign (.plain rfl))
          exact .nil _
        · exact keepOK_of hk hn rfl
        apply WPA.ret
        refine ⟨.inr rfl, ⟨_, (.cons (.tmp rfl) (.cons (.tmp rfl) .nil)), ?_⟩, by simp [St.get]⟩
        rw [if_pos hC, hC]; rfl

end Go.Proofs.Ytglokdfdogmmhaa


/- The reference's Sequence. -/
namespace Go.Proofs.Ytglokdfdogmmhaa
open Go
set_option linter.unusedVariables false
set_option linter.unusedSimpArgs false
set_option maxRecDepth 10000
set_option maxHeartbeats 2000000

/-- soundpost/soundpostref22.free -/
theorem spec35 {g : Gr} (h : g.OK) {dl : List Int} (hdl : dl.length = g.es.length) {pl : List Bool} (hpl : pl.length = g.lat.length) (v : Nat) : FnSpec Try.prog 35 [g.av, .d (intsD dl), .own 27 g.lat.length, iv .i64 (v : Nat)] [(bk 27, .blk (.app 1 g.lat.length [.bools pl]))] (bv (g.freeS dl pl v)) [(bk 27, .blk (.app 1 g.lat.length [.bools pl]))] [27] := by
  have hn1 := h.n
  have hn2 := h.m
  refine fnSpec_of (rs := [.tmp 8]) Try.func35 rfl rfl (Nat.le_of_ble_eq_true rfl) (odd_of rfl) fun E hk hn => ?_
  apply WPA.seq
  apply WPA.region
  · first | apply Trace.boxD 4 [] (.plain rfl) rfl rfl | apply Trace.box 4 [] (.plain rfl) rfl rfl rfl
    apply Trace.pu [] (.assign (.plain rfl))
    exact .nil _
  · exact keepOK_of hk hn rfl
  apply WPA.seq
  apply WPA.seq
  apply WPA.region
  · apply Trace.pu [] (.assign (.plain rfl))
    exact .nil _
  · exact keepOK_of hk hn rfl
  apply WPA.block
  refine WPA.loop (σ := Nat) (fun i => [(sl 1, .av (.d (intsD dl))), (sl 2, .av (.own 27 g.lat.length)), (sl 3, .av (iv .i64 (v))), (sl 4, .av (.loc 4 0)), (sl 9, .av (iv .i64 (i))), (bk 4, .blk (.data g.ds)), (bk 27, .blk (.app 1 g.lat.length [.bools pl]))]) (fun i => i ≤ g.es.length ∧ ∀ j, j < i → g.blkE dl pl v j = false) (fun i => g.es.length - i) 0
    (St.le_cons rfl (St.le_cons rfl (St.le_cons rfl (St.le_cons rfl (St.le_cons rfl (St.le_cons rfl (St.le_cons rfl (St.le_nil _)))))))) ⟨Nat.zero_le _, fun j hj => by omega⟩ fun i hi => ?_
  apply WPA.seq
  apply WPA.seq
  apply WPA.region
  · apply Trace.pu [] (.move (.plain rfl))
    apply Trace.pu [] (.fieldAddr fl25_1 (.plain rfl) rfl)
    first | apply Trace.pu [_] (.loadLoc1D ty23 (.plain rfl) rfl rfl) | apply Trace.pu [_] (.loadLoc1 ty23 (.plain rfl) rfl rfl) | apply Trace.pu [] (.loadRp1 ty23 (.plain rfl) rfl) | apply Trace.pu [_] (.loadCol1 ty23 (.plain rfl) rfl rfl rfl (fun _ => by omega))
    apply Trace.pu [] (.len rfl Try.underlying23 (.plain rfl) rfl)
    apply Trace.pu [] (.cmp (.plain rfl) (.plain rfl) rfl)
    exact .nil _
  · exact keepOK_of hk hn rfl
  refine WPA.cond rfl (fun hc1 => ?_) (fun hc1 => ?_)
  · have hlt : i < g.es.length := by simpa using hc1
    obtain ⟨e, he⟩ : ∃ e, g.es.getD i default = e := ⟨_, rfl⟩
    obtain ⟨hem, hef, het, hef0, het0⟩ := he ▸ Gr.edge h hlt
    have hbe := blkE_eq (dl := dl) (pl := pl) (v := v) he
    apply WPA.skip
    apply WPA.seq
    apply WPA.block
    apply WPA.seq
    apply WPA.region
    · apply Trace.pu [] (.fieldAddr fl25_1 (.plain rfl) rfl)
      first | apply Trace.pu [_] (.loadLoc1D ty23 (.plain rfl) rfl rfl) | apply Trace.pu [_] (.loadLoc1 ty23 (.plain rfl) rfl rfl) | apply Trace.pu [] (.loadRp1 ty23 (.plain rfl) rfl) | apply Trace.pu [_] (.loadCol1 ty23 (.plain rfl) rfl rfl rfl (fun _ => by omega))
      apply Trace.pu [] (.move (.plain rfl))
      apply Trace.pu [] ((Pure.indexRows el23 (.plain rfl) (.plain rfl) (fun _ => ⟨by omega, by omega⟩)).to (y := .rp e.ds) (by show AV.rp (g.es.getD i default).ds = _; rw [he]))
      apply Trace.pu [] (.fieldAddr fl43_1 (.plain rfl) rfl)
      first | apply Trace.pu [_] (.loadLoc1D ty3 (.plain rfl) rfl rfl) | apply Trace.pu [_] (.loadLoc1 ty3 (.plain rfl) rfl rfl) | apply Trace.pu [] (.loadRp1 ty3 (.plain rfl) rfl) | apply Trace.pu [_] (.loadCol1 ty3 (.plain rfl) rfl rfl rfl (fun _ => by omega))
      apply Trace.pu [] (.move (.plain rfl))
      apply Trace.pu [] (.cmp (.plain rfl) (.plain rfl) rfl)
      apply Trace.pu [] (.move (.plain rfl))
      apply Trace.pg [] rfl (.move (.plain rfl))
      apply Trace.pg [] rfl (.move (.plain rfl))
      first | apply Trace.pg [] rfl (.indexRows el22 (.gd rfl (fun h => h)) (.gd rfl (fun h => h)) (fun _ => ⟨by omega, by omega⟩)) | apply Trace.pg [] rfl (.indexOwn el22 (.gd rfl (fun h => h)) (.gd rfl (fun h => h)) (fun _ => ⟨by omega, by omega⟩)) | apply Trace.pg [] rfl (.indexSl el22 (.gd rfl (fun h => h)) (.gd rfl (fun h => h)) (fun _ => ⟨by omega, by omega⟩))
      first | apply Trace.pg [_] rfl (.loadLoc1D ty3 (.gd rfl (fun h => h)) rfl rfl) | apply Trace.pg [_] rfl (.loadLoc1 ty3 (.gd rfl (fun h => h)) rfl rfl) | apply Trace.pg [] rfl (.loadRp1 ty3 (.gd rfl (fun h => h)) rfl) | apply Trace.pg [_] rfl (.loadCol1 ty3 (.gd rfl (fun h => h)) rfl rfl rfl (fun _ => by omega))
      apply Trace.pg [] rfl (.cmp (.gd rfl (fun h => h)) (.plain rfl) rfl)
      apply Trace.pu [] (.pick (.plain rfl) (.gd rfl (by simp)) (.plain rfl))
      apply Trace.pu [] (.move (.plain rfl))
      apply Trace.pg [] rfl (.move (.plain rfl))
      apply Trace.pg [] rfl (.fieldAddr fl25_1 (.plain rfl) rfl)
      first | apply Trace.pg [_] rfl (.loadLoc1D ty23 (.gd rfl (fun h => h)) rfl rfl) | apply Trace.pg [_] rfl (.loadLoc1 ty23 (.gd rfl (fun h => h)) rfl rfl) | apply Trace.pg [] rfl (.loadRp1 ty23 (.gd rfl (fun h => h)) rfl) | apply Trace.pg [_] rfl (.loadCol1 ty23 (.gd rfl (fun h => h)) rfl rfl rfl (fun _ => by omega))
      apply Trace.pg [] rfl (.move (.plain rfl))
      apply Trace.pg [] rfl ((Pure.indexRows el23 (.gd rfl (fun h => h)) (.gd rfl (fun h => h)) (fun _ => ⟨by omega, by omega⟩)).to (y := .rp e.ds) (by show AV.rp (g.es.getD i default).ds = _; rw [he]))
      apply Trace.pg [] rfl (.fieldAddr fl43_0 (.gd rfl (fun h => h)) rfl)
      first | apply Trace.pg [_] rfl (.loadLoc1D ty3 (.gd rfl (fun h => h)) rfl rfl) | apply Trace.pg [_] rfl (.loadLoc1 ty3 (.gd rfl (fun h => h)) rfl rfl) | apply Trace.pg [] rfl (.loadRp1 ty3 (.gd rfl (fun h => h)) rfl) | apply Trace.pg [_] rfl (.loadCol1 ty3 (.gd rfl (fun h => h)) rfl rfl rfl (fun _ => by omega))
      first | apply Trace.pg [] rfl (.indexRows el45 (.gd rfl (fun h => h)) (.gd rfl (fun h => h)) (fun _ => ⟨by omega, by omega⟩)) | apply Trace.pg [] rfl (.indexOwn el45 (.gd rfl (fun h => h)) (.gd rfl (fun h => h)) (fun _ => ⟨by omega, by omega⟩)) | apply Trace.pg [] rfl (.indexSl el45 (.gd rfl (fun h => h)) (.gd rfl (fun h => h)) (fun _ => ⟨by omega, by omega⟩))
      first | apply Trace.pg [_] rfl (.loadLoc1D ty4 (.gd rfl (fun h => h)) rfl rfl) | apply Trace.pg [_] rfl (.loadLoc1 ty4 (.gd rfl (fun h => h)) rfl rfl) | apply Trace.pg [] rfl (.loadRp1 ty4 (.gd rfl (fun h => h)) rfl) | apply Trace.pg [_] rfl (.loadCol1 ty4 (.gd rfl (fun h => h)) rfl rfl rfl (fun _ => by omega))
      apply Trace.pg [] rfl (.not (.gd rfl (fun h => h)))
      apply Trace.pu [] (.pick (.plain rfl) (.gd rfl (by simp)) (.plain rfl))
      exact .nil _
    · exact keepOK_of hk hn rfl
    refine WPA.cond rfl (fun hc2 => ?_) (fun hc2 => ?_)
    · apply WPA.seq
      apply WPA.region
      · apply Trace.pu [] (.assign (.plain rfl))
        exact .nil _
      · exact keepOK_of hk hn rfl
      apply WPA.ret
      refine ⟨.inr rfl, ⟨_, (.cons (.tmp rfl) .nil), ?_⟩, blks_of (.cons rfl (.nil))⟩
      have hbk : g.blkE dl pl v i = true := by rw [hbe]; exact hc2
      rw [freeS_not hlt hbk]; rfl
    · have hbk : g.blkE dl pl v i = false := by rw [hbe]; exact hc2
      apply WPA.skip
      apply WPA.region
      · apply Trace.pu [] (.move (.plain rfl))
        apply Trace.pu [] (.arith (.plain rfl) (.plain rfl) rfl (fun _ => bd64 (by omega)))
        apply Trace.pu [] (.assign (.plain rfl))
        exact .nil _
      · exact keepOK_of hk hn rfl
      exact ⟨i + 1, ⟨by omega, fun j hj => by
        by_cases e : j = i
        · rw [e]; exact hbk
        · exact hi.2 j (by omega)⟩, by omega, St.le_cons rfl (St.le_cons rfl (St.le_cons rfl (St.le_cons rfl (St.le_cons (slI (by omega)) (St.le_cons rfl (St.le_cons rfl (St.le_nil _)))))))⟩
  · apply WPA.exit
    apply WPA.seq
    apply WPA.region
    · apply Trace.pu [] (.assign (.plain rfl))
      exact .nil _
    · exact keepOK_of hk hn rfl
    apply WPA.ret
    refine ⟨.inr rfl, ⟨_, (.cons (.tmp rfl) .nil), ?_⟩, blks_of (.cons rfl (.nil))⟩
    rw [freeS_of fun j hj => hi.2 j (by
      have : ¬ ((i : Int) < g.es.length) := by simpa using hc1
      omega)]
    rfl

/-- soundpost/soundpostref22.Sequence -/
theorem spec14 (g : Gr) (hz : g.Sz) (dl : List Int) (hd : dl.length ≤ 4611686018427387904) : FnSpec Try.prog 14 [g.av, .d (intsD dl)] [] (.tup ([intsD (g.seqE dl).1, .v (.int .i64 (g.seqE dl).2)].map .d)) [] [] := by
  have hn1 := hz.n
  have hn2 := hz.m
  refine fnSpec_of (rs := [.tmp 4, .tmp 5]) Try.func14 rfl rfl (Nat.le_of_ble_eq_true rfl) (by simp [St.get]) fun E hk hn => ?_
  apply WPA.seq
  apply WPA.region
  · first | apply Trace.boxD 2 [] (.plain rfl) rfl rfl | apply Trace.box 2 [] (.plain rfl) rfl rfl rfl
    apply Trace.pu [] (.assign (.plain rfl))
    apply Trace.pu [] (.assign (.plain rfl))
    exact .nil _
  · exact keepOK_of hk hn rfl
  apply WPA.seq
  apply WPA.region
  · first | apply Trace.pu [_] (.loadAllD ty25 (.plain rfl) rfl (by simp)) | apply Trace.pu [_] (.loadLocD ty25 (.plain rfl) rfl (fun _ => by simp)) | apply Trace.pu [_] (.loadLoc ty25 (.plain rfl) rfl (fun _ => Nat.le_of_ble_eq_true rfl)) | apply Trace.pu [] (.loadRp ty25 (.plain rfl) (fun _ => by decide)) | apply Trace.pu [] (.loadRp ty25 (.plain rfl) (fun _ => Nat.le_of_ble_eq_true rfl)) | apply Trace.pu [_] (.loadCol ty25 (.plain rfl) rfl rfl (fun _ => by decide) (fun _ => by omega)) | apply Trace.pu [_] (.loadArr ty25 (.plain rfl) rfl)
    apply Trace.cu (callArgs0 (.cons (.plain rfl) .nil)) (spec17 g hz) en17
    apply Trace.pu [] (.assign (.plain rfl))
    exact .nil _
  · exact keepOK_of hk hn rfl
  apply WPA.seq
  apply WPA.seq
  apply WPA.region
  · apply Trace.pu [] (.move (.plain rfl))
    apply Trace.pu [] (.cmp (.plain rfl) (.plain rfl) rfl)
    exact .nil _
  · exact keepOK_of hk hn rfl
  refine WPA.cond rfl (fun hc1 => ?_) (fun hc1 => ?_)
  · have hC : g.check ≠ 0 := by simpa using hc1
    apply WPA.seq
    apply WPA.region
    · apply Trace.pu [] (.move (.plain rfl))
      apply Trace.pu [] (.assign (.plain rfl))
      apply Trace.pu [] (.assign (.plain rfl))
      exact .nil _
    · exact keepOK_of hk hn rfl
    refine WPA.ghost (Ghost.slotEmp (t := 4) (n := 1) (g := fun i => [Col.at (.ints .i64 []) i]) rfl) ?_
    apply WPA.ret
    refine ⟨.inr rfl, ⟨_, (.cons (.tmp rfl) (.cons (.tmp rfl) .nil)), ?_⟩, by simp [St.get]⟩
    rw [seqE_bad hC]; rfl
  · have hC : g.check = 0 := by simpa using hc1
    have hok := check_ok2 hC
    have hm5 := hok.m
    have hn5 := hok.n
    apply WPA.skip
    apply WPA.seq
    apply WPA.seq
    apply WPA.region
    · apply Trace.pu [] (.move (.plain rfl))
      apply Trace.pu [] (.len rfl Try.underlying22 (.plain rfl) rfl)
      apply Trace.pu [] (.fieldAddr fl25_1 (.plain rfl) rfl)
      first | apply Trace.pu [_] (.loadLoc1D ty23 (.plain rfl) rfl rfl) | apply Trace.pu [_] (.loadLoc1 ty23 (.plain rfl) rfl rfl) | apply Trace.pu [] (.loadRp1 ty23 (.plain rfl) rfl) | apply Trace.pu [_] (.loadCol1 ty23 (.plain rfl) rfl rfl rfl (fun _ => by omega))
      apply Trace.pu [] (.len rfl Try.underlying23 (.plain rfl) rfl)
      apply Trace.pu [] (.cmp (.plain rfl) (.plain rfl) rfl)
      exact .nil _
    · exact keepOK_of hk hn rfl
    refine WPA.cond rfl (fun hc2 => ?_) (fun hc2 => ?_)
    · have hB : g.dlBad dl = true := by
        have h9 : ¬ ((dl.length : Int) = g.es.length) := by simpa using hc2
        unfold Gr.dlBad
        rw [decide_eq_false (fun e => h9 (by omega))]; rfl
      apply WPA.seq
      apply WPA.region
      · apply Trace.pu [] (.assign (.plain rfl))
        apply Trace.pu [] (.assign (.plain rfl))
        exact .nil _
      · exact keepOK_of hk hn rfl
      refine WPA.ghost (Ghost.slotEmp (t := 4) (n := 1) (g := fun i => [Col.at (.ints .i64 []) i]) rfl) ?_
      apply WPA.ret
      refine ⟨.inr rfl, ⟨_, (.cons (.tmp rfl) (.cons (.tmp rfl) .nil)), ?_⟩, by simp [St.get]⟩
      rw [seqE_arg hC hB]; rfl
    · have hdl : dl.length = g.es.length := by
        have h9 : ((dl.length : Int) = g.es.length) := by simpa using hc2
        omega
      apply WPA.skip
      apply WPA.seq
      apply WPA.seq
      apply WPA.region
      · apply Trace.pu [] (.assign (.plain rfl))
        exact .nil _
      · exact keepOK_of hk hn rfl
      apply WPA.block
      refine WPA.loop (σ := Nat) (fun i => [(sl 1, .av (.d (intsD dl))), (sl 2, .av (.loc 2 0)), (sl 7, .av (iv .i64 (i))), (bk 2, .blk (.data g.ds))]) (fun i => i ≤ dl.length ∧ ∀ j, j < i → 0 ≤ dl.getD j 0) (fun i => dl.length - i) 0
        (St.le_cons rfl (St.le_cons rfl (St.le_cons rfl (St.le_cons rfl (St.le_nil _))))) ⟨Nat.zero_le _, fun j h => by omega⟩ fun i hi => ?_
      apply WPA.seq
      apply WPA.seq
      apply WPA.region
      · apply Trace.pu [] (.move (.plain rfl))
        apply Trace.pu [] (.move (.plain rfl))
        apply Trace.pu [] (.len rfl Try.underlying22 (.plain rfl) rfl)
        apply Trace.pu [] (.cmp (.plain rfl) (.plain rfl) rfl)
        exact .nil _
      · exact keepOK_of hk hn rfl
      refine WPA.cond rfl (fun hc3 => ?_) (fun hc3 => ?_)
      · have hlt : i < dl.length := by simpa using hc3
        apply WPA.skip
        apply WPA.seq
        apply WPA.block
        apply WPA.seq
        apply WPA.region
        · apply Trace.pu [] (.move (.plain rfl))
          apply Trace.pu [] (.move (.plain rfl))
          first | apply Trace.pu [] (.indexRows el22 (.plain rfl) (.plain rfl) (fun _ => ⟨by omega, by omega⟩)) | apply Trace.pu [] (.indexOwn el22 (.plain rfl) (.plain rfl) (fun _ => ⟨by omega, by omega⟩)) | apply Trace.pu [] (.indexSl el22 (.plain rfl) (.plain rfl) (fun _ => ⟨by omega, by omega⟩))
          first | apply Trace.pu [_] (.loadLoc1D ty3 (.plain rfl) rfl rfl) | apply Trace.pu [_] (.loadLoc1 ty3 (.plain rfl) rfl rfl) | apply Trace.pu [] (.loadRp1 ty3 (.plain rfl) rfl) | apply Trace.pu [_] (.loadCol1 ty3 (.plain rfl) rfl rfl rfl (fun _ => by omega))
          apply Trace.pu [] (.cmp (.plain rfl) (.plain rfl) rfl)
          exact .nil _
        · exact keepOK_of hk hn rfl
        refine WPA.cond rfl (fun hc4 => ?_) (fun hc4 => ?_)
        · have hB : g.dlBad dl = true := by
            have h9 : dl.getD i 0 < 0 := of_decide_eq_true hc4
            unfold Gr.dlBad
            rw [Bool.or_eq_true]
            exact .inr (List.any_eq_true.2 ⟨_, getD_in 0 hlt, decide_eq_true h9⟩)
          apply WPA.seq
          apply WPA.region
          · apply Trace.pu [] (.assign (.plain rfl))
            apply Trace.pu [] (.assign (.plain rfl))
            exact .nil _
          · exact keepOK_of hk hn rfl
          refine WPA.ghost (Ghost.slotEmp (t := 4) (n := 1) (g := fun i => [Col.at (.ints .i64 []) i]) rfl) ?_
          apply WPA.ret
          refine ⟨.inr rfl, ⟨_, (.cons (.tmp rfl) (.cons (.tmp rfl) .nil)), ?_⟩, by simp [St.get]⟩
          rw [seqE_arg hC hB]; rfl
        · have hx : 0 ≤ dl.getD i 0 := by
            have h9 : ¬ (dl.getD i 0 < 0) := of_decide_eq_false hc4
            omega
          apply WPA.skip
          apply WPA.region
          · apply Trace.pu [] (.move (.plain rfl))
            apply Trace.pu [] (.arith (.plain rfl) (.plain rfl) rfl (fun _ => bd64 (by omega)))
            apply Trace.pu [] (.assign (.plain rfl))
            exact .nil _
          · exact keepOK_of hk hn rfl
          exact ⟨i + 1, ⟨by omega, fun j h => by
            by_cases hj : j = i
            · rw [hj]; exact hx
            · exact hi.2 j (by omega)⟩, by omega, St.le_cons rfl (St.le_cons rfl (St.le_cons (slI (by omega)) (St.le_cons rfl (St.le_nil _))))⟩
      · have hie : i = dl.length := by
          have : ¬ ((i : Int) < dl.length) := by simpa using hc3
          omega
        subst hie
        have hB : g.dlBad dl = false := by
          unfold Gr.dlBad
          rw [decide_eq_true hdl, Bool.or_eq_false_iff]
          refine ⟨rfl, List.any_eq_false.2 fun x hx => ?_⟩
          obtain ⟨j, hj, rfl⟩ := List.mem_iff_getElem.1 hx
          have := hi.2 j hj
          rw [getD_lt _ _ hj] at this
          simpa using this
        apply WPA.exit
        apply WPA.seq
        apply WPA.region
        · apply Trace.pu [] (.fieldAddr fl25_0 (.plain rfl) rfl)
          first | apply Trace.pu [_] (.loadLoc1D ty22 (.plain rfl) rfl rfl) | apply Trace.pu [_] (.loadLoc1 ty22 (.plain rfl) rfl rfl) | apply Trace.pu [] (.loadRp1 ty22 (.plain rfl) rfl) | apply Trace.pu [_] (.loadCol1 ty22 (.plain rfl) rfl rfl rfl (fun _ => by omega))
          apply Trace.pu [] (.len rfl Try.underlying22 (.plain rfl) rfl)
          apply Trace.makeSlice 36 [] so45 by4 zo4 rfl (by decide) (.plain rfl) (.plain rfl) ⟨by omega, by omega⟩ (by omega) (by omega) rfl rfl
          apply Trace.pu [] (.assign (.plain rfl))
          exact .nil _
        · exact keepOK_of hk hn rfl
        apply WPA.seq
        apply WPA.region
        · apply Trace.buildSlice 37 [] so22 zo3 rfl (by decide) (by decide) (.nil _ _) rfl rfl rfl
          apply Trace.pu [] (.assign (.plain rfl))
          exact .nil _
        · exact keepOK_of hk hn rfl
        apply WPA.seq
        apply WPA.block
        refine WPA.ghost (Ghost.dsInts (l := 37) (len := 0) (k := .i64) (xs := []) (ds := []) rfl rfl) ?_
        refine WPA.loop (σ := DS) (fun s => [(sl 1, .av (.d (intsD dl))), (sl 2, .av (.loc 2 0)), (sl 8, .av (.own 36 g.lat.length)), (sl 9, .av (.own 37 s.2.length)), (bk 2, .blk (.data g.ds)), (bk 36, .blk (.app 1 g.lat.length [.bools s.1])), (bk 37, .blk (.app 1 s.2.length [.ints .i64 s.2]))]) (fun s => g.seqTo dl s.2.length = some s ∧ s.2.length ≤ g.lat.length) (fun s => g.lat.length - s.2.length) (List.replicate g.lat.length false, [])
          (St.le_cons rfl (St.le_cons rfl (St.le_cons rfl (St.le_cons rfl (St.le_cons rfl (St.le_cons rfl (St.le_cons rfl (St.le_nil _)))))))) ⟨rfl, Nat.zero_le _⟩ fun s hs => ?_
        apply WPA.seq
        apply WPA.seq
        apply WPA.region
        · apply Trace.pu [] (.move (.plain rfl))
          apply Trace.pu [] (.len rfl Try.underlying22 (.plain rfl) rfl)
          apply Trace.pu [] (.move (.plain rfl))
          apply Trace.pu [] (.len rfl Try.underlying45 (.plain rfl) rfl)
          apply Trace.pu [] (.cmp (.plain rfl) (.plain rfl) rfl)
          exact .nil _
        · exact keepOK_of hk hn rfl
        refine WPA.cond rfl (fun hc5 => ?_) (fun hc5 => ?_)
        · obtain ⟨hs1, hs2⟩ := hs
          have hlt : s.2.length < g.lat.length := by
            have : (s.2.length : Int) < g.lat.length := of_decide_eq_true hc5
            omega
          obtain ⟨hsl, _⟩ := seqTo_len hs1
          apply WPA.skip
          apply WPA.block
          apply WPA.seq
          apply WPA.region
          · apply Trace.pu [] (.assign (.plain rfl))
            exact .nil _
          · exact keepOK_of hk hn rfl
          apply WPA.seq
          apply WPA.block
          refine WPA.loop (σ := Nat) (fun i => [(sl 1, .av (.d (intsD dl))), (sl 2, .av (.loc 2 0)), (sl 8, .av (.own 36 g.lat.length)), (sl 9, .av (.own 37 s.2.length)), (sl 10, .av (iv .i64 (i))), (bk 2, .blk (.data g.ds)), (bk 36, .blk (.app 1 g.lat.length [.bools s.1])), (bk 37, .blk (.app 1 s.2.length [.ints .i64 s.2]))]) (fun i => i ≤ g.lat.length ∧ ∀ w, w < i → g.rdy dl s.1 w = false) (fun i => g.lat.length - i) 0
            (St.le_cons rfl (St.le_cons rfl (St.le_cons rfl (St.le_cons rfl (St.le_cons rfl (St.le_cons rfl (St.le_cons rfl (St.le_cons rfl (St.le_nil _))))))))) ⟨Nat.zero_le _, fun w hw => by omega⟩ fun v hv => ?_
          apply WPA.seq
          apply WPA.seq
          rcases three (pl := s.1) hv.1 with hvn | ⟨hvn, hsv⟩ | ⟨hvn, hsv⟩
          · apply WPA.region
            · apply Trace.pu [] (.move (.plain rfl))
              apply Trace.pu [] (.move (.plain rfl))
              apply Trace.pu [] (.len rfl Try.underlying45 (.plain rfl) rfl)
              apply Trace.pu [] ((Pure.cmp (.plain rfl) (.plain rfl) rfl).to (y := bv false) (congrArg bv (decide_eq_false (by omega))))
              apply Trace.pu [] (.move (.plain rfl))
              apply Trace.pg [] rfl (Pure.never (x := bv true) (by intro d h; cases h))
              apply Trace.pg [] rfl (Pure.never (x := bv true) (by intro d h; cases h))
              apply Trace.pg [] rfl (Pure.never (x := bv true) (by intro d h; cases h))
              apply Trace.pg [] rfl (Pure.never (x := bv true) (by intro d h; cases h))
              apply Trace.pg [] rfl (Pure.never (x := bv true) (by intro d h; cases h))
              apply Trace.pg [] rfl (Pure.never (x := bv true) (by intro d h; cases h))
              apply Trace.pg [] rfl (Pure.never (x := bv true) (by intro d h; cases h))
              apply Trace.pg [] rfl (Pure.never (x := bv true) (by intro d h; cases h))
              apply Trace.pg [] rfl (Pure.never (x := bv true) (by intro d h; cases h))
              apply Trace.pg [] rfl (Pure.never (x := bv true) (by intro d h; cases h))
              apply Trace.pg [] rfl (Pure.never (x := bv true) (by intro d h; cases h))
              apply Trace.pg [] rfl (Pure.never (x := bv true) (by intro d h; cases h))
              apply Trace.pu [] (.pick (.plain rfl) (.gd rfl (by simp)) (.plain rfl))
              exact .nil _
            · exact keepOK_of hk hn rfl
            refine WPA.cond rfl (fun hc6 => ?_) (fun hc6 => ?_)
            · cases hc6
            · apply WPA.exit
              apply WPA.seq
              apply WPA.seq
              apply WPA.region
              · apply Trace.pu [] (.move (.plain rfl))
                apply Trace.pu [] (.move (.plain rfl))
                apply Trace.pu [] (.len rfl Try.underlying45 (.plain rfl) rfl)
                apply Trace.pu [] (.cmp (.plain rfl) (.plain rfl) rfl)
                exact .nil _
              · exact keepOK_of hk hn rfl
              refine WPA.cond rfl (fun hc7 => ?_) (fun hc7 => ?_)
              · have hf : g.firstS dl s.1 = none := firstS_none.2 fun w hw => hv.2 w (by omega)
                apply WPA.seq
                apply WPA.region
                · apply Trace.pu [] (.assign (.plain rfl))
                  apply Trace.pu [] (.assign (.plain rfl))
                  exact .nil _
                · exact keepOK_of hk hn rfl
                refine WPA.ghost (Ghost.slotEmp (t := 4) (n := 1) (g := fun i => [Col.at (.ints .i64 []) i]) rfl) ?_
                apply WPA.ret
                refine ⟨.inr rfl, ⟨_, (.cons (.tmp rfl) (.cons (.tmp rfl) .nil)), ?_⟩, by simp [St.get]⟩
                rw [seqE_loop hC hB hlt hs1 hf]; rfl
              · exact absurd (of_decide_eq_false hc7) (by omega)
          · apply WPA.region
            · apply Trace.pu [] (.move (.plain rfl))
              apply Trace.pu [] (.move (.plain rfl))
              apply Trace.pu [] (.len rfl Try.underlying45 (.plain rfl) rfl)
              apply Trace.pu [] ((Pure.cmp (.plain rfl) (.plain rfl) rfl).to (y := bv true) (congrArg bv (decide_eq_true (by omega))))
              apply Trace.pu [] (.move (.plain rfl))
              apply Trace.og rfl
              apply Trace.pu [] (.move (.plain rfl))
              apply Trace.og rfl
              apply Trace.pu [] (.move (.plain rfl))
              apply Trace.og rfl
              apply Trace.pu [] (.indexOwn el45 (.plain rfl) (.plain rfl) (fun _ => ⟨by omega, by omega⟩))
              apply Trace.og rfl
              apply Trace.pu [36] ((Pure.loadCol1 ty4 (.plain rfl) rfl rfl rfl (fun _ => by omega)).to (y := bv true) (by exact congrArg bv (show s.1.getD ((v : Nat) : Int).toNat false = true from by simpa [seen] using hsv)))
              apply Trace.og rfl
              apply Trace.pu [] (.move (.plain rfl))
              apply Trace.pg [] rfl (Pure.never (x := bv true) (by intro d h; cases h))
              apply Trace.pg [] rfl (Pure.never (x := bv true) (by intro d h; cases h))
              apply Trace.pg [] rfl (Pure.never (x := bv true) (by intro d h; cases h))
              apply Trace.pg [] rfl (Pure.never (x := bv true) (by intro d h; cases h))
              apply Trace.pg [] rfl (Pure.never (x := bv true) (by intro d h; cases h))
              apply Trace.pg [] rfl (Pure.never (x := bv true) (by intro d h; cases h))
              apply Trace.og rfl
              apply Trace.pu [] (.pick (.plain rfl) (.plain rfl) (.gd rfl (by simp)))
              apply Trace.pu [] (.pick (.plain rfl) (.plain rfl) (.plain rfl))
              exact .nil _
            · exact keepOK_of hk hn rfl
            refine WPA.cond rfl (fun hc8 => ?_) (fun hc8 => ?_)
            · have hrd : g.rdy dl s.1 v = false := by unfold Gr.rdy; rw [hsv]; rfl
              apply WPA.skip
              apply WPA.block
              apply WPA.region
              · apply Trace.pu [] (.move (.plain rfl))
                apply Trace.pu [] (.arith (.plain rfl) (.plain rfl) rfl (fun _ => bd64 (by omega)))
                apply Trace.pu [] (.assign (.plain rfl))
                exact .nil _
              · exact keepOK_of hk hn rfl
              refine ⟨v + 1, ⟨by omega, fun w hw => by
                by_cases e : w = v
                · rw [e]; exact hrd
                · exact hv.2 w (by omega)⟩, by omega, ?_⟩
              exact (St.le_cons rfl (St.le_cons rfl (St.le_cons rfl (St.le_cons rfl (St.le_cons (slI (by omega)) (St.le_cons rfl (St.le_cons rfl (St.le_cons rfl (St.le_nil _)))))))))
            · cases hc8
          · apply WPA.region
            · apply Trace.pu [] (.move (.plain rfl))
              apply Trace.pu [] (.move (.plain rfl))
              apply Trace.pu [] (.len rfl Try.underlying45 (.plain rfl) rfl)
              apply Trace.pu [] ((Pure.cmp (.plain rfl) (.plain rfl) rfl).to (y := bv true) (congrArg bv (decide_eq_true (by omega))))
              apply Trace.pu [] (.move (.plain rfl))
              apply Trace.og rfl
              apply Trace.pu [] (.move (.plain rfl))
              apply Trace.og rfl
              apply Trace.pu [] (.move (.plain rfl))
              apply Trace.og rfl
              apply Trace.pu [] (.indexOwn el45 (.plain rfl) (.plain rfl) (fun _ => ⟨by omega, by omega⟩))
              apply Trace.og rfl
              apply Trace.pu [36] ((Pure.loadCol1 ty4 (.plain rfl) rfl rfl rfl (fun _ => by omega)).to (y := bv false) (by exact congrArg bv (show s.1.getD ((v : Nat) : Int).toNat false = false from by simpa [seen] using hsv)))
              apply Trace.og rfl
              apply Trace.pu [] (.move (.plain rfl))
              apply Trace.og rfl
              apply Trace.pu [2] (.loadAllD ty25 (.plain rfl) rfl (by simp))
              apply Trace.og rfl
              apply Trace.pu [] (.move (.plain rfl))
              apply Trace.og rfl
              apply Trace.pu [] (.move (.plain rfl))
              apply Trace.og rfl
              apply Trace.pu [] (.move (.plain rfl))
              apply Trace.og rfl
              apply Trace.cb [] [bk 36] (callArgs0 (.cons (.plain rfl) (.cons (.plain rfl) (.cons (.plain rfl) (.cons (.plain rfl) .nil))))) ((spec35 hok hdl hsl v).as 27 36 rfl rfl rfl rfl rfl rfl rfl) en35 (.cons rfl (.nil)) rfl rfl
              apply Trace.og rfl
              apply Trace.pu [] (.not (.plain rfl))
              apply Trace.og rfl
              apply Trace.pu [] (.pick (.plain rfl) (.plain rfl) (.plain rfl))
              apply Trace.pu [] (.pick (.plain rfl) (.plain rfl) (.plain rfl))
              exact .nil _
            · exact keepOK_of hk hn rfl
            refine WPA.cond rfl (fun hc9 => ?_) (fun hc9 => ?_)
            · have hrd : g.rdy dl s.1 v = false := by
                have h9 : (!g.freeS dl s.1 v) = true := hc9
                unfold Gr.rdy
                rw [Bool.not_eq_true'] at h9
                rw [h9]; simp
              apply WPA.skip
              apply WPA.block
              apply WPA.region
              · apply Trace.pu [] (.move (.plain rfl))
                apply Trace.pu [] (.arith (.plain rfl) (.plain rfl) rfl (fun _ => bd64 (by omega)))
                apply Trace.pu [] (.assign (.plain rfl))
                exact .nil _
              · exact keepOK_of hk hn rfl
              refine ⟨v + 1, ⟨by omega, fun w hw => by
                by_cases e : w = v
                · rw [e]; exact hrd
                · exact hv.2 w (by omega)⟩, by omega, ?_⟩
              exact (St.le_cons rfl (St.le_cons rfl (St.le_cons rfl (St.le_cons rfl (St.le_cons (slI (by omega)) (St.le_cons rfl (St.le_cons rfl (St.le_cons rfl (St.le_nil _)))))))))
            · have hrd : g.rdy dl s.1 v = true := by
                have h9 : (!g.freeS dl s.1 v) = false := hc9
                rw [Bool.not_eq_false'] at h9
                unfold Gr.rdy; rw [hsv, h9]; rfl
              have hf : g.firstS dl s.1 = some v := firstS_some.2 ⟨hvn, hrd, hv.2⟩
              have hst := seqTo_step hs1
              rw [hf] at hst
              apply WPA.exit
              apply WPA.seq
              apply WPA.seq
              apply WPA.region
              · apply Trace.pu [] (.move (.plain rfl))
                apply Trace.pu [] (.move (.plain rfl))
                apply Trace.pu [] (.len rfl Try.underlying45 (.plain rfl) rfl)
                apply Trace.pu [] (.cmp (.plain rfl) (.plain rfl) rfl)
                exact .nil _
              · exact keepOK_of hk hn rfl
              refine WPA.cond rfl (fun hc10 => ?_) (fun hc10 => ?_)
              · exact absurd (of_decide_eq_true hc10) (by omega)
              · apply WPA.skip
                apply WPA.seq
                apply WPA.region
                · apply Trace.pu [] (.move (.plain rfl))
                  apply Trace.pu [] (.move (.plain rfl))
                  first | apply Trace.pu [] (.indexRows el45 (.plain rfl) (.plain rfl) (fun _ => ⟨by omega, by omega⟩)) | apply Trace.pu [] (.indexOwn el45 (.plain rfl) (.plain rfl) (fun _ => ⟨by omega, by omega⟩)) | apply Trace.pu [] (.indexSl el45 (.plain rfl) (.plain rfl) (fun _ => ⟨by omega, by omega⟩))
                  first | apply Trace.storeD ty4 (.plain rfl) (.plain rfl) rfl rfl rfl (by simp [AV.oneB, single]) (Nat.le_of_ble_eq_true rfl) rfl | apply Trace.storeDA ty4 (.plain rfl) (.plain rfl) rfl rfl rfl (by simp [AV.oneB, single]) (Nat.le_of_ble_eq_true rfl) rfl | apply Trace.storeLoc ty4 (.plain rfl) (.plain rfl) rfl rfl rfl (by simp [AV.oneB, single]) (Nat.le_of_ble_eq_true rfl) rfl | apply Trace.storeRow ty4 (.plain rfl) (.plain rfl) rfl rfl rfl rfl (by decide) (by simp [AV.oneB, single]) rfl (by omega)
                  exact .nil _
                · exact keepOK_of hk hn rfl
                refine WPA.endG ?_
                apply WPA.region
                · apply Trace.pu [] (.move (.plain rfl))
                  apply Trace.pu [] (.move (.plain rfl))
                  apply Trace.buildSlice 72 [] so22 zo3 rfl (by decide) (by decide) (.cons (.plain rfl) rfl rfl (Nat.le_of_ble_eq_true rfl) (.nil _ _)) rfl rfl rfl
                  apply Trace.append 73 [bk 37, bk 72, sl 70, sl 72] ap22 kd22 (by decide) (.own (.plain rfl) rfl) (.own (.plain rfl) rfl) (Col.ones rfl) (labs_ok rfl) (by omega) (by omega) rfl rfl
                  apply Trace.pu [] (.assign (.plain rfl))
                  exact .nil _
                · exact keepOK_of hk hn rfl
                refine ⟨_, Ghost.swap 37 73 (by rw [hk]; decide) (by rw [hk]; decide) rfl, ?_⟩
                refine ⟨(s.1.set v true, s.2 ++ [(v : Int)]), ⟨?_, ?_⟩, ?_, ?_⟩
                · show g.seqTo dl (s.2 ++ [(v : Int)]).length = _
                  rw [List.length_append, List.length_singleton]; exact hst
                · show (s.2 ++ [(v : Int)]).length ≤ _
                  rw [List.length_append, List.length_singleton]; omega
                · show g.lat.length - (s.2 ++ [(v : Int)]).length < _
                  rw [List.length_append, List.length_singleton]; omega
                exact (St.le_cons rfl (St.le_cons rfl (St.le_cons rfl (St.le_cons (by show some (Cont.av (.own 37 (s.2.length + 1))) = some (Cont.av (.own 37 (s.2 ++ [(v : Int)]).length)); simp) (St.le_cons rfl (St.le_cons rfl (St.le_cons (app_n (by simp) rfl) (St.le_nil _))))))))
        · obtain ⟨hs1, hs2⟩ := hs
          have hle : s.2.length = g.lat.length := by
            have : ¬ ((s.2.length : Int) < g.lat.length) := of_decide_eq_false hc5
            omega
          rw [hle] at hs1
          apply WPA.exit
          apply WPA.seq
          refine WPA.ghost (Ghost.freezeAs (t := 9) (l := 37) (g := fun i => [Col.at (.ints .i64 s.2) i]) rfl rfl (fun i hi => rfl)) ?_
          apply WPA.region
          · apply Trace.pu [] (.move (.plain rfl))
            apply Trace.pu [] (.assign (.plain rfl))
            apply Trace.pu [] (.assign (.plain rfl))
            exact .nil _
          · exact keepOK_of hk hn rfl
          apply WPA.ret
          refine ⟨.inr rfl, ⟨_, (.cons (.tmp rfl) (.cons (.tmp rfl) .nil)), ?_⟩, by simp [St.get]⟩
          rw [seqE_ok hC hB hs1]; rfl

end Go.Proofs.Ytglokdfdogmmhaa


/- OrderSpec. -/
namespace Go.Proofs.Ytglokdfdogmmhaa
open Go
set_option linter.unusedVariables false
set_option linter.unusedSimpArgs false
set_option maxRecDepth 10000
set_option maxHeartbeats 1000000

theorem partsR_row {g : Gr} (h : g.OK) (i : Nat) : (g.partsR.getD i []).length ≤ g.lat.length := Nat.le_trans (total_row _ i) (total_le (refTo_inv h _))
abbrev Gr.parts22 (g : Gr) : RL := if g.check = 0 then g.partsR else []
theorem parts22_len {g : Gr} : g.parts22.length ≤ g.lat.length := by
  unfold Gr.parts22; split
  · exact refTo_lenle g _
  · simp
theorem parts22_row {g : Gr} (i : Nat) : (g.parts22.getD i []).length ≤ g.lat.length := by
  unfold Gr.parts22; split
  · rename_i h; exact partsR_row (check_ok2 h) i
  · simp
theorem seqE_len {g : Gr} {dl : List Int} : (g.seqE dl).1.length ≤ g.lat.length := by
  unfold Gr.seqE
  split
  · simp
  · split
    · simp
    · unfold Gr.seqO
      cases h : g.seqTo dl g.lat.length with
      | none => simp
      | some s => have := (seqTo_len h).2; simp [this]
theorem rsN {g : Gr} (hz : g.Sz) {dl : List Int} (hd : dl.length ≤ 4611686018427387904) {l : List Int} {c : Int} (h : g.seqE dl = (l, c)) : FnSpec Try.prog 14 [g.av, .d (intsD dl)] [] (.tup ([intsD l, .v (.int .i64 c)].map .d)) [] [] := by
  have := spec14 g hz dl hd
  rw [h] at this
  exact this
theorem rpN {g : Gr} (hz : g.Sz) {l : RL} {c : Int} (h : (g.parts22, g.check) = (l, c)) : FnSpec Try.prog 12 [g.av] [] (.tup ([nextD l, .v (.int .i64 c)].map .d)) [] [] := by
  injection h with h1 h2
  have := spec12 g hz
  rw [h2] at this
  rw [← h1]
  unfold Gr.parts22
  rw [h2]
  exact this
/-- soundpost/soundpostlaw22.OrderSpec -/
theorem spec3 (g : Gr) (hz : g.Sz) (dl : List Int) (hd : dl.length ≤ 4611686018427387904) : FnSpec Try.prog 3 [g.av, .d (intsD dl)] [] (bv true) [] [] := by
  have hn1 := hz.n
  have hn2 := hz.m
  refine fnSpec_of (rs := [.tmp 4]) Try.func3 rfl rfl (Nat.le_of_ble_eq_true rfl) (by simp [St.get]) fun E hk hn => ?_
  apply WPA.seq
  apply WPA.region
  · first | apply Trace.boxD 2 [] (.plain rfl) rfl rfl | apply Trace.box 2 [] (.plain rfl) rfl rfl rfl
    apply Trace.pu [] (.assign (.plain rfl))
    exact .nil _
  · exact keepOK_of hk hn rfl
  apply WPA.seq
  apply WPA.seq
  apply WPA.region
  · apply Trace.cu (callArgs0 .nil) spec9 en9
    apply Trace.pu [] (.not (.plain rfl))
    exact .nil _
  · exact keepOK_of hk hn rfl
  refine WPA.cond rfl (fun hc1 => ?_) (fun hc1 => ?_)
  · cases hc1
  · apply WPA.skip
    apply WPA.seq
    apply WPA.seq
    apply WPA.region
    · first | apply Trace.pu [_] (.loadAllD ty25 (.plain rfl) rfl (by simp)) | apply Trace.pu [_] (.loadLocD ty25 (.plain rfl) rfl (fun _ => by simp)) | apply Trace.pu [_] (.loadLoc ty25 (.plain rfl) rfl (fun _ => Nat.le_of_ble_eq_true rfl)) | apply Trace.pu [] (.loadRp ty25 (.plain rfl) (fun _ => by decide)) | apply Trace.pu [] (.loadRp ty25 (.plain rfl) (fun _ => Nat.le_of_ble_eq_true rfl)) | apply Trace.pu [_] (.loadCol ty25 (.plain rfl) rfl rfl (fun _ => by decide) (fun _ => by omega)) | apply Trace.pu [_] (.loadArr ty25 (.plain rfl) rfl)
      apply Trace.cu (callArgs0 (.cons (.plain rfl) .nil)) (spec10 g hz) en10
      apply Trace.pu [] (.not (.plain rfl))
      exact .nil _
    · exact keepOK_of hk hn rfl
    refine WPA.cond rfl (fun hc2 => ?_) (fun hc2 => ?_)
    · apply WPA.seq
      apply WPA.region
      · apply Trace.pu [] (.assign (.plain rfl))
        exact .nil _
      · exact keepOK_of hk hn rfl
      apply WPA.ret
      refine ⟨.inr rfl, ⟨_, (.cons (.tmp rfl) .nil), ?_⟩, by simp [St.get]⟩
      rfl
    · have hf : g.few22 = true := by simpa using hc2
      obtain ⟨h12, h40⟩ := few22_of hf
      have hpl := parts22_len (g := g)
      have hpr := parts22_row (g := g)
      have hsl := seqE_len (g := g) (dl := dl)
      apply WPA.skip
      apply WPA.seq
      apply WPA.region
      · first | apply Trace.pu [_] (.loadAllD ty25 (.plain rfl) rfl (by simp)) | apply Trace.pu [_] (.loadLocD ty25 (.plain rfl) rfl (fun _ => by simp)) | apply Trace.pu [_] (.loadLoc ty25 (.plain rfl) rfl (fun _ => Nat.le_of_ble_eq_true rfl)) | apply Trace.pu [] (.loadRp ty25 (.plain rfl) (fun _ => by decide)) | apply Trace.pu [] (.loadRp ty25 (.plain rfl) (fun _ => Nat.le_of_ble_eq_true rfl)) | apply Trace.pu [_] (.loadCol ty25 (.plain rfl) rfl rfl (fun _ => by decide) (fun _ => by omega)) | apply Trace.pu [_] (.loadArr ty25 (.plain rfl) rfl)
        apply Trace.ct (callArgs0 (.cons (.plain rfl) .nil)) (paN hz h12 (l := g.parts22) (c := g.check) rfl) en11
        apply Trace.pu [] (.move (.plain rfl))
        apply Trace.pu [] (.extract (.plain rfl) rfl)
        apply Trace.pu [] (.extract (.plain rfl) rfl)
        apply Trace.pu [] (.assign (.plain rfl))
        apply Trace.pu [] (.assign (.plain rfl))
        exact .nil _
      · exact keepOK_of hk hn rfl
      apply WPA.seq
      apply WPA.region
      · first | apply Trace.pu [_] (.loadAllD ty25 (.plain rfl) rfl (by simp)) | apply Trace.pu [_] (.loadLocD ty25 (.plain rfl) rfl (fun _ => by simp)) | apply Trace.pu [_] (.loadLoc ty25 (.plain rfl) rfl (fun _ => Nat.le_of_ble_eq_true rfl)) | apply Trace.pu [] (.loadRp ty25 (.plain rfl) (fun _ => by decide)) | apply Trace.pu [] (.loadRp ty25 (.plain rfl) (fun _ => Nat.le_of_ble_eq_true rfl)) | apply Trace.pu [_] (.loadCol ty25 (.plain rfl) rfl rfl (fun _ => by decide) (fun _ => by omega)) | apply Trace.pu [_] (.loadArr ty25 (.plain rfl) rfl)
        apply Trace.ct (callArgs0 (.cons (.plain rfl) .nil)) (rpN hz (l := g.parts22) (c := g.check) rfl) en12
        apply Trace.pu [] (.move (.plain rfl))
        apply Trace.pu [] (.extract (.plain rfl) rfl)
        apply Trace.pu [] (.extract (.plain rfl) rfl)
        apply Trace.pu [] (.assign (.plain rfl))
        apply Trace.pu [] (.assign (.plain rfl))
        exact .nil _
      · exact keepOK_of hk hn rfl
      apply WPA.seq
      apply WPA.region
      · first | apply Trace.pu [_] (.loadAllD ty25 (.plain rfl) rfl (by simp)) | apply Trace.pu [_] (.loadLocD ty25 (.plain rfl) rfl (fun _ => by simp)) | apply Trace.pu [_] (.loadLoc ty25 (.plain rfl) rfl (fun _ => Nat.le_of_ble_eq_true rfl)) | apply Trace.pu [] (.loadRp ty25 (.plain rfl) (fun _ => by decide)) | apply Trace.pu [] (.loadRp ty25 (.plain rfl) (fun _ => Nat.le_of_ble_eq_true rfl)) | apply Trace.pu [_] (.loadCol ty25 (.plain rfl) rfl rfl (fun _ => by decide) (fun _ => by omega)) | apply Trace.pu [_] (.loadArr ty25 (.plain rfl) rfl)
        apply Trace.pu [] (.move (.plain rfl))
        apply Trace.ct (callArgs0 (.cons (.plain rfl) (.cons (.plain rfl) .nil))) (seN hz hd (l := (g.seqE dl).1) (c := (g.seqE dl).2) rfl) en13
        apply Trace.pu [] (.move (.plain rfl))
        apply Trace.pu [] (.extract (.plain rfl) rfl)
        apply Trace.pu [] (.extract (.plain rfl) rfl)
        apply Trace.pu [] (.assign (.plain rfl))
        apply Trace.pu [] (.assign (.plain rfl))
        exact .nil _
      · exact keepOK_of hk hn rfl
      apply WPA.seq
      apply WPA.region
      · first | apply Trace.pu [_] (.loadAllD ty25 (.plain rfl) rfl (by simp)) | apply Trace.pu [_] (.loadLocD ty25 (.plain rfl) rfl (fun _ => by simp)) | apply Trace.pu [_] (.loadLoc ty25 (.plain rfl) rfl (fun _ => Nat.le_of_ble_eq_true rfl)) | apply Trace.pu [] (.loadRp ty25 (.plain rfl) (fun _ => by decide)) | apply Trace.pu [] (.loadRp ty25 (.plain rfl) (fun _ => Nat.le_of_ble_eq_true rfl)) | apply Trace.pu [_] (.loadCol ty25 (.plain rfl) rfl rfl (fun _ => by decide) (fun _ => by omega)) | apply Trace.pu [_] (.loadArr ty25 (.plain rfl) rfl)
        apply Trace.pu [] (.move (.plain rfl))
        apply Trace.ct (callArgs0 (.cons (.plain rfl) (.cons (.plain rfl) .nil))) (rsN hz hd (l := (g.seqE dl).1) (c := (g.seqE dl).2) rfl) en14
        apply Trace.pu [] (.move (.plain rfl))
        apply Trace.pu [] (.extract (.plain rfl) rfl)
        apply Trace.pu [] (.extract (.plain rfl) rfl)
        apply Trace.pu [] (.assign (.plain rfl))
        apply Trace.pu [] (.assign (.plain rfl))
        exact .nil _
      · exact keepOK_of hk hn rfl
      apply WPA.seq
      apply WPA.region
      · apply Trace.pu [] (.move (.plain rfl))
        apply Trace.pu [] (.move (.plain rfl))
        apply Trace.cu (callArgs0 (.cons (.plain rfl) (.cons (.plain rfl) .nil))) (saT (a := g.parts22) (by omega) (fun i => by have := hpr i; omega)) en15
        apply Trace.pu [] (.move (.plain rfl))
        apply Trace.pg [] rfl (.move (.plain rfl))
        apply Trace.pg [] rfl (.move (.plain rfl))
        apply Trace.pg [] rfl ((Pure.cmp (.gd rfl (fun h => h)) (.gd rfl (fun h => h)) rfl).to (y := bv true) (congrArg bv (decide_eq_true rfl)))
        apply Trace.pu [] (.pick (.plain rfl) (.gd rfl (by simp)) (.plain rfl))
        apply Trace.pu [] (.move (.plain rfl))
        apply Trace.pg [] rfl (.move (.plain rfl))
        apply Trace.pg [] rfl (.move (.plain rfl))
        apply Trace.cg rfl (callArgs0 (.cons (.gd rfl (fun h => h)) (.cons (.gd rfl (fun h => h)) .nil))) (fun _ => smT (a := (g.seqE dl).1) (by omega)) en16
        apply Trace.pu [] (.pick (.plain rfl) (.gd rfl (by simp)) (.plain rfl))
        apply Trace.pu [] (.move (.plain rfl))
        apply Trace.pg [] rfl (.move (.plain rfl))
        apply Trace.pg [] rfl (.move (.plain rfl))
        apply Trace.pg [] rfl ((Pure.cmp (.gd rfl (fun h => h)) (.gd rfl (fun h => h)) rfl).to (y := bv true) (congrArg bv (decide_eq_true rfl)))
        apply Trace.pu [] (.pick (.plain rfl) (.gd rfl (by simp)) (.plain rfl))
        apply Trace.pu [] (.assign (.plain rfl))
        exact .nil _
      · exact keepOK_of hk hn rfl
      apply WPA.ret
      refine ⟨.inr rfl, ⟨_, (.cons (.tmp rfl) .nil), ?_⟩, by simp [St.get]⟩
      rfl

end Go.Proofs.Ytglokdfdogmmhaa

