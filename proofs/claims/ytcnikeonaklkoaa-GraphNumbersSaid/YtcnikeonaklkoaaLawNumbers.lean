/- GraphNumbers answers true for every graph, every number of a node and every list of bytes that can be read. No condition beside the row's own. -/
import Derived.Test.YtcnikeonaklkoaaRows
import Derived.Test.YtcnikeonaklkoaaLaw21G
import Derived.Test.YtcnikeonaklkoaaGraphOpen
import Derived.JoinedOf
import Derived.ProofKit
import Derived.ChangeBare
import Derived.ChangeViews
namespace Go.Proofs.Ytcnikeonaklkoaa.graphNumbers
open Go Go.ChangeShapes Go.WideShapes Go.ChangeAt Go.RowKit
set_option linter.unusedVariables false
set_option linter.unusedSimpArgs false

theorem contract {H : Type} (enc : TypeId × Value → H) (W : World) (base : Nat) (args : Array Value) (ds gs : List (DataW H)) (before : List MemPlace)
    (hval : ∀ (j : Nat) t v, Try.f8.params[j]? = some t → args[j]? = some v → Value.okWide Try.prog W .any base t v)
    (hW : DataW.Whole enc Try.prog Try.f8.params.toList Rows.graphNumbersSpec.vars false W args.toList ds gs before)
    (hsz : (DataW.weightsEach Try.prog (Try.f8.params.toList ++ Rows.graphNumbersSpec.plain.varTypes Try.prog) (ds ++ gs)).all (· ≤ reachBytes) = true) :
    Calls Try.prog 8 args W fun e W' => ∃ v, e = .returned v ∧ Rows.graphNumbersSpec.post enc Try.prog Try.f8 false true false false W args v W' := by
  have hW' := hW
  obtain ⟨p, q, hA0, hV, rfl, hfz, hnd⟩ := hW
  have hA : DataW.TrodAll enc Try.prog W 0 (fun _ => true) true Try.f8.params.toList args.toList ds p := hA0
  rw [Try.params8] at hA hval
  obtain ⟨v0, vs0, d0, ds0, p0, q0, hargs0, rfl, rfl, h0, r0⟩ := trodAll_cons hA
  obtain ⟨v1, vs1, d1, ds1, p1, q1, hargs1, rfl, rfl, h1, r1⟩ := trodAll_cons r0
  subst hargs1
  obtain ⟨v2, vs2, d2, ds2, p2, q2, hargs2, rfl, rfl, h2, r2⟩ := trodAll_cons r1
  subst hargs2
  obtain ⟨rfl, rfl, rfl⟩ := trodAll_nil r2
  obtain rfl : args = #[v0, v1, v2] := by cases args; simp_all
  obtain ⟨rfl, rfl⟩ := trodVars_none hV
  obtain ⟨l0, hl0, hd0⟩ := open_agg plain laid inTable (t := 25) (memB_iff.1 rfl) Try.underlying25 (hval 0 25 v0 rfl rfl) h0 (fun n hn => by
    have := List.all_eq_true.1 hsz n (DataW.weights_mem_each (j := 0) (t := 25) (by rw [Try.params8]; rfl) rfl n hn)
    simpa using this)
  obtain ⟨g0, hz0, hc0⟩ := graph_of hl0
  obtain ⟨x1, hl1, hd1⟩ := open_one plain laid inTable (t := 3) (memB_iff.1 rfl) (.inl ⟨_, Try.underlying3⟩) (hval 1 3 v1 rfl rfl) h1 (fun n hn => by
    have := List.all_eq_true.1 hsz n (DataW.weights_mem_each (j := 1) (t := 3) (by rw [Try.params8]; rfl) rfl n hn)
    simpa using this)
  obtain ⟨n1, e1, hn1⟩ := typed_int Try.underlying3 hl1
  simp only [List.cons.injEq, and_true] at e1
  subst e1
  have hn1 : -9223372036854775808 ≤ n1 ∧ n1 ≤ 9223372036854775807 := by simpa [IntKind.min, IntKind.max, IntKind.signed, IntKind.bits] using hn1
  obtain ⟨x2, hl2, hd2⟩ := open_one plain laid inTable (t := 38) (memB_iff.1 rfl) (.inr (.inr (.inr ⟨_, Try.underlying38⟩))) (hval 2 38 v2 rfl rfl) h2 (fun n hn => by
    have := List.all_eq_true.1 hsz n (DataW.weights_mem_each (j := 2) (t := 38) (by rw [Try.params8]; rfl) rfl n hn)
    simpa using this)
  obtain ⟨xs2, hb2, hx2, hc2⟩ := bytes_of hl2
  exact law_post laid hW' rfl (readable (by rw [Try.params8]; rfl)) rfl Try.underlying4 rfl (spec8 g0 hz0 n1 xs2 hb2 hx2) (denL3 (hc0 _ _ hd0) hd1 (hc2 _ _ hd2))

set_option maxRecDepth 100000 in
theorem lifted (os : Os) (started : os.Started) (H : Type) (enc : TypeId × Value → H) :
    ReturnsInHanded {} Try.checked os 8 .any (Rows.graphNumbersSpec.pre6 enc Try.prog Try.f8 Rows.graphNumbersRow.domain false) (Rows.graphNumbersSpec.post enc Try.prog Try.f8 false true false false) :=
  returnsInHanded_of_change_sized (C := Try.checked) own started (by kernel_rfl) Try.func8
    (ChangeSpec.witness6 (enc := enc) (C := Try.checked) false ⟨#[], #[.agg #[.slice none 0 0, .slice none 0 0], .int .i64 0, .slice none 0 0], []⟩ 8 (by kernel_rfl) (by kernel_rfl) (by kernel_rfl) (by kernel_rfl))
    (fun W base args ds gs before hval hW _ hsz _ => contract enc W base args ds gs before hval hW hsz)

theorem proved : Rows.GraphNumbersSaid :=
  OpenClaim.holds_of_wide 8 Try.f8 rfl rfl rfl rfl rfl rfl rfl ⟨rfl, rfl, rfl, rfl, rfl⟩ rfl rfl rfl rfl rfl (by kernel_rfl) Try.func8 (by kernel_rfl)
    (of_decide_eq_true (by kernel_rfl)) (by unfold Func.isWrapper; first | (rw [if_pos (by decide +kernel)]; kernel_rfl) | (rw [if_neg (by decide +kernel)]; exact ⟨rfl, rfl⟩))
    (fun os started H enc _ => lifted os started H enc)

end Go.Proofs.Ytcnikeonaklkoaa.graphNumbers

