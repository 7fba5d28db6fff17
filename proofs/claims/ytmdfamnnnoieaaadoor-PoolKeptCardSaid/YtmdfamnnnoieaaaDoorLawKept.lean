/- PoolKept answers true for every pool and every list of lists of samples that can be read. The card lists the variables digest.start and digest.numbers, tied to the text of the pruned copy. No other condition. -/
import Derived.Test.YtmdfamnnnoieaaaDoorCards
import Derived.Test.YtmdfamnnnoieaaaDoorPkX
import Derived.Test.YtmdfamnnnoieaaaDoorPkO
import Derived.JoinedOf
import Derived.ProofKit
import Derived.ChangeBare
import Derived.ChangeViews
import Derived.SevenTiedAt
namespace Go.Proofs.YtmdfamnnnoieaaaDoor.poolKept
open Go Go.ChangeShapes Go.WideShapes Go.ChangeAt Go.WideMaps Go.WideElems Go.RowKit
set_option linter.unusedVariables false
set_option linter.unusedSimpArgs false

set_option maxRecDepth 100000 in
theorem contract {H : Type} (enc : TypeId × Value → H) (W : World) (base : Nat) (args : Array Value) (ds gs : List (DataW H)) (before : List MemPlace)
    (hval : ∀ (j : Nat) t v, Tryd.f5.params[j]? = some t → args[j]? = some v → Value.okWide Tryd.prog W .any base t v)
    (hW : DataW.Whole enc Tryd.prog Tryd.f5.params.toList Rows.poolKeptSpec.vars false W args.toList ds gs before)
    (hsz : (DataW.weightsEach Tryd.prog (Tryd.f5.params.toList ++ Rows.poolKeptSpec.plain.varTypes Tryd.prog) (ds ++ gs)).all (· ≤ reachBytes) = true) (hL : laidMetH Tryd.prog laidL W) :
    Calls Tryd.prog 5 args W fun e W' => ∃ v, e = .returned v ∧ Rows.poolKeptSpec.post enc Tryd.prog Tryd.f5 false true false false W args v W' := by
  have hW' := hW
  obtain ⟨p, q, hA0, hV, rfl, hfz, hnd⟩ := hW
  have hA : DataW.TrodAll enc Tryd.prog W 0 (fun _ => true) true Tryd.f5.params.toList args.toList ds p := hA0
  rw [Tryd.params5] at hA hval
  obtain ⟨v0, vs0, d0, ds0, p0, q0, hargs0, rfl, rfl, h0, r0⟩ := trodAll_cons hA
  obtain ⟨v1, vs1, d1, ds1, p1, q1, hargs1, rfl, rfl, h1, r1⟩ := trodAll_cons r0
  subst hargs1
  obtain ⟨rfl, rfl, rfl⟩ := trodAll_nil r1
  obtain rfl : args = #[v0, v1] := by cases args; simp_all
  obtain ⟨rfl, rfl⟩ := trodVars_none hV
  obtain ⟨l0, hl0, hd0⟩ := open_agg plain laid inTable (t := 24) (memB_iff.1 rfl) Tryd.underlying24 (hval 0 24 v0 rfl rfl) h0 (fun n hn => by
    have := List.all_eq_true.1 hsz n (DataW.weights_mem_each (j := 0) (t := 24) (by rw [Tryd.params5]; rfl) rfl n hn)
    simpa using this)
  obtain ⟨ts0, ht0, hc0⟩ := pool_of hl0
  obtain ⟨x1, hl1, hd1⟩ := open_one plain laid inTable (t := 46) (memB_iff.1 rfl) (.inr (.inr (.inr ⟨_, Tryd.underlying46⟩))) (hval 1 46 v1 rfl rfl) h1 (fun n hn => by
    have := List.all_eq_true.1 hsz n (DataW.weights_mem_each (j := 1) (t := 46) (by rw [Tryd.params5]; rfl) rfl n hn)
    simpa using this)
  obtain ⟨L1, hL1, hLn1, hc1⟩ := lists_of hl1
  exact law_post laid hW' rfl (readable (by rw [Tryd.params5]; rfl)) rfl Tryd.underlying4 rfl (glob_of hL) (spec5 ts0 ht0 L1 hLn1 hL1) (denL2 (hc0 _ _ hd0) (hc1 _ _ hd1))

set_option maxRecDepth 100000 in
theorem lifted (os : Os) (started : os.Started) (H : Type) (enc : TypeId × Value → H) :
    ReturnsInHanded {} Tryd.checked os 5 .any (fun w args => (Rows.poolKeptSpec.pre enc Tryd.prog Tryd.f5 Rows.poolKeptRow.domain false w args ∧ laidMetH Tryd.prog laidL w) ∧ sizedMet enc Tryd.prog Tryd.f5 (OpenSpec.ofChange Rows.poolKeptSpec) false w args) (Rows.poolKeptSpec.post enc Tryd.prog Tryd.f5 false true false false) := by
  refine returnsInHanded_of_change_and (C := Tryd.checked) (X := fun w _ => laidMetH Tryd.prog laidL w) (fun _ _ _ hh h => h.of_heap hh) own started (by kernel_rfl) Tryd.func5
    (ChangeSpec.witness_shaped (enc := enc) (C := Tryd.checked) (os := os) (X := fun w _ => laidMetH Tryd.prog laidL w) false (World.doorLaid Tryd.prog 400 os) #[.agg #[.slice none 0 0], .slice none 0 0] 8 rfl (World.shaped_of_RefB (by kernel_rfl) (by kernel_rfl)) (by kernel_rfl) (by kernel_rfl) (by kernel_rfl) (door_met os _)) ?_
  exact fun W base args ds gs before hval hW _ hsz hL _ => contract enc W base args ds gs before hval hW hsz hL

theorem row_holds : Rows.PoolKeptSaid :=
  OpenClaim.holds_of_wide 5 Tryd.f5 rfl rfl rfl rfl rfl rfl rfl ⟨rfl, rfl, rfl, rfl, rfl⟩ rfl rfl rfl rfl rfl (by kernel_rfl) Tryd.func5 (by kernel_rfl)
    (of_decide_eq_true (by kernel_rfl)) (by unfold Func.isWrapper; first | (rw [if_pos (by decide +kernel)]; kernel_rfl) | (rw [if_neg (by decide +kernel)]; exact ⟨rfl, rfl⟩))
    (fun os started H enc _ => lifted os started H enc)

theorem proved : Rows.PoolKeptCardSaid :=
  Claim7.holds_tied_plain_at .later [] [.data, .data] true (true, "88e8bb5e6ccda485842a61d93f4ffb4c7c4567adf99ecbbed76cbbad07834a84") false
    row_holds (fun _ h => by cases h) (by kernel_rfl) (fun _ h => by cases h) poolKept_row_tie rfl ⟨rfl, rfl⟩ (by kernel_rfl) rfl
    (fun f fn hf hfn => by
      obtain rfl : f = 5 := Option.some.inj ((show Tryd.prog.funcNamed "soundpost/soundpostlaw25.PoolKept" = some 5 by kernel_rfl).symm.trans hf) |>.symm
      obtain rfl : fn = Tryd.f5 := (Option.some.inj (Tryd.func5.symm.trans hfn)).symm
      exact ⟨by kernel_rfl, fun j t ht => by
        rw [Tryd.params5] at ht
        have hm : t ∈ [24, 46] := by simpa using Array.mem_of_getElem? ht
        have hall : ([24, 46].all fun u => !Tryd.prog.wantsStandIn u) = true := by kernel_rfl
        exact (show Tryd.prog.wantsStandIn t = false by simpa using List.all_eq_true.1 hall t hm)⟩)
    (by kernel_rfl)

end Go.Proofs.YtmdfamnnnoieaaaDoor.poolKept

