/- PoolCollected answers true for every pool and every two lists of digests that can be read. The card lists the variables digest.start and digest.numbers, tied to the text of the pruned copy. No other condition. -/
import Derived.Test.YtmdfamnnnoieaaaDoorCards
import Derived.Test.YtmdfamnnnoieaaaDoorPkX
import Derived.Test.YtmdfamnnnoieaaaDoorPkO
import Derived.JoinedOf
import Derived.ProofKit
import Derived.ChangeBare
import Derived.ChangeViews
import Derived.SevenTiedAt
namespace Go.Proofs.YtmdfamnnnoieaaaDoor.poolCollected
open Go Go.ChangeShapes Go.WideShapes Go.ChangeAt Go.WideMaps Go.WideElems Go.RowKit
set_option linter.unusedVariables false
set_option linter.unusedSimpArgs false

set_option maxRecDepth 100000 in
theorem contract {H : Type} (enc : TypeId × Value → H) (W : World) (base : Nat) (args : Array Value) (ds gs : List (DataW H)) (before : List MemPlace)
    (hval : ∀ (j : Nat) t v, Tryd.f8.params[j]? = some t → args[j]? = some v → Value.okWide Tryd.prog W .any base t v)
    (hW : DataW.Whole enc Tryd.prog Tryd.f8.params.toList Rows.poolCollectedSpec.vars false W args.toList ds gs before)
    (hsz : (DataW.weightsEach Tryd.prog (Tryd.f8.params.toList ++ Rows.poolCollectedSpec.plain.varTypes Tryd.prog) (ds ++ gs)).all (· ≤ reachBytes) = true) (hL : laidMetH Tryd.prog laidL W) :
    Calls Tryd.prog 8 args W fun e W' => ∃ v, e = .returned v ∧ Rows.poolCollectedSpec.post enc Tryd.prog Tryd.f8 false true false false W args v W' := by
  have hW' := hW
  obtain ⟨p, q, hA0, hV, rfl, hfz, hnd⟩ := hW
  have hA : DataW.TrodAll enc Tryd.prog W 0 (fun _ => true) true Tryd.f8.params.toList args.toList ds p := hA0
  rw [Tryd.params8] at hA hval
  obtain ⟨v0, vs0, d0, ds0, p0, q0, hargs0, rfl, rfl, h0, r0⟩ := trodAll_cons hA
  obtain ⟨v1, vs1, d1, ds1, p1, q1, hargs1, rfl, rfl, h1, r1⟩ := trodAll_cons r0
  subst hargs1
  obtain ⟨v2, vs2, d2, ds2, p2, q2, hargs2, rfl, rfl, h2, r2⟩ := trodAll_cons r1
  subst hargs2
  obtain ⟨rfl, rfl, rfl⟩ := trodAll_nil r2
  obtain rfl : args = #[v0, v1, v2] := by cases args; simp_all
  obtain ⟨rfl, rfl⟩ := trodVars_none hV
  obtain ⟨l0, hl0, hd0⟩ := open_agg plain laid inTable (t := 24) (memB_iff.1 rfl) Tryd.underlying24 (hval 0 24 v0 rfl rfl) h0 (fun n hn => by
    have := List.all_eq_true.1 hsz n (DataW.weights_mem_each (j := 0) (t := 24) (by rw [Tryd.params8]; rfl) rfl n hn)
    simpa using this)
  obtain ⟨ts0, ht0, hc0⟩ := pool_of hl0
  obtain ⟨x1, hl1, hd1⟩ := open_one plain laid inTable (t := 41) (memB_iff.1 rfl) (.inr (.inr (.inr ⟨_, Tryd.underlying41⟩))) (hval 1 41 v1 rfl rfl) h1 (fun n hn => by
    have := List.all_eq_true.1 hsz n (DataW.weights_mem_each (j := 1) (t := 41) (by rw [Tryd.params8]; rfl) rfl n hn)
    simpa using this)
  obtain ⟨ks1, hks1, hkn1, hc1⟩ := digs_of hl1
  obtain ⟨x2, hl2, hd2⟩ := open_one plain laid inTable (t := 41) (memB_iff.1 rfl) (.inr (.inr (.inr ⟨_, Tryd.underlying41⟩))) (hval 2 41 v2 rfl rfl) h2 (fun n hn => by
    have := List.all_eq_true.1 hsz n (DataW.weights_mem_each (j := 2) (t := 41) (by rw [Tryd.params8]; rfl) rfl n hn)
    simpa using this)
  obtain ⟨ks2, hks2, hkn2, hc2⟩ := digs_of hl2
  exact law_post laid hW' rfl (readable (by rw [Tryd.params8]; rfl)) rfl Tryd.underlying4 rfl (glob_of hL) (spec8 ts0 ht0 ks1 ks2 hkn1 hkn2 (fun k hk => (hks1 k hk).1) (fun k hk => (hks2 k hk).1)) (denL3 (hc0 _ _ hd0) (hc1 _ _ hd1) (hc2 _ _ hd2))

set_option maxRecDepth 100000 in
theorem lifted (os : Os) (started : os.Started) (H : Type) (enc : TypeId × Value → H) :
    ReturnsInHanded {} Tryd.checked os 8 .any (fun w args => (Rows.poolCollectedSpec.pre enc Tryd.prog Tryd.f8 Rows.poolCollectedRow.domain false w args ∧ laidMetH Tryd.prog laidL w) ∧ sizedMet enc Tryd.prog Tryd.f8 (OpenSpec.ofChange Rows.poolCollectedSpec) false w args) (Rows.poolCollectedSpec.post enc Tryd.prog Tryd.f8 false true false false) := by
  refine returnsInHanded_of_change_and (C := Tryd.checked) (X := fun w _ => laidMetH Tryd.prog laidL w) (fun _ _ _ hh h => h.of_heap hh) own started (by kernel_rfl) Tryd.func8
    (ChangeSpec.witness_shaped (enc := enc) (C := Tryd.checked) (os := os) (X := fun w _ => laidMetH Tryd.prog laidL w) false (World.doorLaid Tryd.prog 400 os) #[.agg #[.slice none 0 0], .slice none 0 0, .slice none 0 0] 8 rfl (World.shaped_of_RefB (by kernel_rfl) (by kernel_rfl)) (by kernel_rfl) (by kernel_rfl) (by kernel_rfl) (door_met os _)) ?_
  exact fun W base args ds gs before hval hW _ hsz hL _ => contract enc W base args ds gs before hval hW hsz hL

theorem row_holds : Rows.PoolCollectedSaid :=
  OpenClaim.holds_of_wide 8 Tryd.f8 rfl rfl rfl rfl rfl rfl rfl ⟨rfl, rfl, rfl, rfl, rfl⟩ rfl rfl rfl rfl rfl (by kernel_rfl) Tryd.func8 (by kernel_rfl)
    (of_decide_eq_true (by kernel_rfl)) (by unfold Func.isWrapper; first | (rw [if_pos (by decide +kernel)]; kernel_rfl) | (rw [if_neg (by decide +kernel)]; exact ⟨rfl, rfl⟩))
    (fun os started H enc _ => lifted os started H enc)

theorem proved : Rows.PoolCollectedCardSaid :=
  Claim7.holds_tied_plain_at .later [] [.data, .data] true (true, "88e8bb5e6ccda485842a61d93f4ffb4c7c4567adf99ecbbed76cbbad07834a84") false
    row_holds (fun _ h => by cases h) (by kernel_rfl) (fun _ h => by cases h) poolCollected_row_tie rfl ⟨rfl, rfl⟩ (by kernel_rfl) rfl
    (fun f fn hf hfn => by
      obtain rfl : f = 8 := Option.some.inj ((show Tryd.prog.funcNamed "soundpost/soundpostlaw25.PoolCollected" = some 8 by kernel_rfl).symm.trans hf) |>.symm
      obtain rfl : fn = Tryd.f8 := (Option.some.inj (Tryd.func8.symm.trans hfn)).symm
      exact ⟨by kernel_rfl, fun j t ht => by
        rw [Tryd.params8] at ht
        have hm : t ∈ [24, 41, 41] := by simpa using Array.mem_of_getElem? ht
        have hall : ([24, 41, 41].all fun u => !Tryd.prog.wantsStandIn u) = true := by kernel_rfl
        exact (show Tryd.prog.wantsStandIn t = false by simpa using List.all_eq_true.1 hall t hm)⟩)
    (by kernel_rfl)

end Go.Proofs.YtmdfamnnnoieaaaDoor.poolCollected

