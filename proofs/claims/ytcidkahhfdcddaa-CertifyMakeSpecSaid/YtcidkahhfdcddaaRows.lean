/-
  No cell of these rows narrows 'for every input' (looked for: loops, veiled, ifaces, maps, wideKeys, modest, calm, conditions, laid).
  DERIVED. THE GIVEN ROWS OF THIS SEAT. 7 by the template 'for every input the law returns true; each argument reads behind the call as it read before'; 0 by the template 'total and deterministic' (their statements: YtcidkahhfdcddaaTotals.lean).
  GIVEN WITH THE SEED: the statements are not yours to turn. If you find one false, say at which input.
  Laid BY PROGRAM, IN A SANDBOX (cutbox-rows.mjs): the forced cells as the released guide's own fill.sh prints them over the translation ef7d87f1a49e49e2… (all of the seat's roots in one cut). By AI agents, Wed Nov 11 2026. No macro, syntax, notation, axiom, sorry.
-/
import Derived.Test.YtcidkahhfdcddaaChecked
import GoSem.Claim
import GoSem.ClaimJoined
import GoSem.ClaimMapViews
import Derived.JoinedTies
import Derived.KernelRfl
namespace Go.Proofs.Ytcidkahhfdcddaa
/- THE CELL 'sum', in the pinned program and in every row, IS THE sha256 OF THE DUMP (.gsa) THAT YtcidkahhfdcddaaProg.lean LOADS. Nothing in Lean hashes anything: it is a label: what it is worth is what the hold of that sum in a sandbox is worth. -/
noncomputable def Try.pinned : Pinned := { name := "ytcidkahhfdcddaa", sum := "ef7d87f1a49e49e2a24ccd81fd85a2ab0e5241d783fb1282174b64356c0afed4", checked := Try.checked }
namespace Rows
def none {H : Type} : Left H := { results := [], args := [] }

/-- 'soundposttop.TopPlan': WHATEVER THE INPUT: true; the input reads as it did. -/
def topPlanSpec : ChangeSpec := { name := "topPlan", fn := fun _ => fun
  | [d1, d2, d3] => { results := [.lit (.bool true)], args := [d1, d2, d3] }
  | _ => none }
def topPlanRow : OpenClaim := { program := "ytcidkahhfdcddaa", sum := "ef7d87f1a49e49e2a24ccd81fd85a2ab0e5241d783fb1282174b64356c0afed4", func := "soundpost/soundposttop.TopPlan", spec := "topPlan", unfollowed := true, recurses := true, apart := false }
def TopPlanSaid : Prop := topPlanRow.holds Try.pinned (OpenSpec.ofChange topPlanSpec)

/-- ITS FALSE NEIGHBOUR: 'it returns false'. Refute it at one input. -/
def topPlanWrong : ChangeSpec := { name := "topPlan", fn := fun _ => fun
  | [d1, d2, d3] => { results := [.lit (.bool false)], args := [d1, d2, d3] }
  | _ => none }
def TopPlanWrongFalsely : Prop := topPlanRow.holds Try.pinned (OpenSpec.ofChange topPlanWrong)

/-- 'soundpostlaw24.CertifySpec': WHATEVER THE INPUT: true; the input reads as it did. -/
def certifySpecSpec : ChangeSpec := { name := "certifySpec", fn := fun _ => fun
  | [d1, d2, d3] => { results := [.lit (.bool true)], args := [d1, d2, d3] }
  | _ => none }
def certifySpecRow : OpenClaim := { program := "ytcidkahhfdcddaa", sum := "ef7d87f1a49e49e2a24ccd81fd85a2ab0e5241d783fb1282174b64356c0afed4", func := "soundpost/soundpostlaw24.CertifySpec", spec := "certifySpec", unfollowed := true, recurses := true, apart := false }
def CertifySpecSaid : Prop := certifySpecRow.holds Try.pinned (OpenSpec.ofChange certifySpecSpec)

/-- ITS FALSE NEIGHBOUR: 'it returns false'. Refute it at one input. -/
def certifySpecWrong : ChangeSpec := { name := "certifySpec", fn := fun _ => fun
  | [d1, d2, d3] => { results := [.lit (.bool false)], args := [d1, d2, d3] }
  | _ => none }
def CertifySpecWrongFalsely : Prop := certifySpecRow.holds Try.pinned (OpenSpec.ofChange certifySpecWrong)

/-- 'soundpostlaw24.CertifyMakeSpec': WHATEVER THE INPUT: true; the input reads as it did. -/
def certifyMakeSpecSpec : ChangeSpec := { name := "certifyMakeSpec", fn := fun _ => fun
  | [d1, d2] => { results := [.lit (.bool true)], args := [d1, d2] }
  | _ => none }
def certifyMakeSpecRow : OpenClaim := { program := "ytcidkahhfdcddaa", sum := "ef7d87f1a49e49e2a24ccd81fd85a2ab0e5241d783fb1282174b64356c0afed4", func := "soundpost/soundpostlaw24.CertifyMakeSpec", spec := "certifyMakeSpec", unfollowed := true, recurses := true, apart := false }
def CertifyMakeSpecSaid : Prop := certifyMakeSpecRow.holds Try.pinned (OpenSpec.ofChange certifyMakeSpecSpec)

/-- ITS FALSE NEIGHBOUR: 'it returns false'. Refute it at one input. -/
def certifyMakeSpecWrong : ChangeSpec := { name := "certifyMakeSpec", fn := fun _ => fun
  | [d1, d2] => { results := [.lit (.bool false)], args := [d1, d2] }
  | _ => none }
def CertifyMakeSpecWrongFalsely : Prop := certifyMakeSpecRow.holds Try.pinned (OpenSpec.ofChange certifyMakeSpecWrong)

/-- 'soundpostlaw24.CertifyBounds': WHATEVER THE INPUT: true; the input reads as it did. -/
def certifyBoundsSpec : ChangeSpec := { name := "certifyBounds", fn := fun _ => fun
  | [d1, d2, d3, d4] => { results := [.lit (.bool true)], args := [d1, d2, d3, d4] }
  | _ => none }
def certifyBoundsRow : OpenClaim := { program := "ytcidkahhfdcddaa", sum := "ef7d87f1a49e49e2a24ccd81fd85a2ab0e5241d783fb1282174b64356c0afed4", func := "soundpost/soundpostlaw24.CertifyBounds", spec := "certifyBounds", unfollowed := true, recurses := true, apart := false }
def CertifyBoundsSaid : Prop := certifyBoundsRow.holds Try.pinned (OpenSpec.ofChange certifyBoundsSpec)

/-- ITS FALSE NEIGHBOUR: 'it returns false'. Refute it at one input. -/
def certifyBoundsWrong : ChangeSpec := { name := "certifyBounds", fn := fun _ => fun
  | [d1, d2, d3, d4] => { results := [.lit (.bool false)], args := [d1, d2, d3, d4] }
  | _ => none }
def CertifyBoundsWrongFalsely : Prop := certifyBoundsRow.holds Try.pinned (OpenSpec.ofChange certifyBoundsWrong)

/-- 'soundpostlaw24.CertifyMean': WHATEVER THE INPUT: true; the input reads as it did. -/
def certifyMeanSpec : ChangeSpec := { name := "certifyMean", fn := fun _ => fun
  | [d1, d2, d3] => { results := [.lit (.bool true)], args := [d1, d2, d3] }
  | _ => none }
def certifyMeanRow : OpenClaim := { program := "ytcidkahhfdcddaa", sum := "ef7d87f1a49e49e2a24ccd81fd85a2ab0e5241d783fb1282174b64356c0afed4", func := "soundpost/soundpostlaw24.CertifyMean", spec := "certifyMean", unfollowed := true, recurses := true, apart := false }
def CertifyMeanSaid : Prop := certifyMeanRow.holds Try.pinned (OpenSpec.ofChange certifyMeanSpec)

/-- ITS FALSE NEIGHBOUR: 'it returns false'. Refute it at one input. -/
def certifyMeanWrong : ChangeSpec := { name := "certifyMean", fn := fun _ => fun
  | [d1, d2, d3] => { results := [.lit (.bool false)], args := [d1, d2, d3] }
  | _ => none }
def CertifyMeanWrongFalsely : Prop := certifyMeanRow.holds Try.pinned (OpenSpec.ofChange certifyMeanWrong)

/-- 'soundpostlaw24.CertifyScaled': WHATEVER THE INPUT: true; the input reads as it did. -/
def certifyScaledSpec : ChangeSpec := { name := "certifyScaled", fn := fun _ => fun
  | [d1, d2] => { results := [.lit (.bool true)], args := [d1, d2] }
  | _ => none }
def certifyScaledRow : OpenClaim := { program := "ytcidkahhfdcddaa", sum := "ef7d87f1a49e49e2a24ccd81fd85a2ab0e5241d783fb1282174b64356c0afed4", func := "soundpost/soundpostlaw24.CertifyScaled", spec := "certifyScaled", unfollowed := true, recurses := true, apart := false }
def CertifyScaledSaid : Prop := certifyScaledRow.holds Try.pinned (OpenSpec.ofChange certifyScaledSpec)

/-- ITS FALSE NEIGHBOUR: 'it returns false'. Refute it at one input. -/
def certifyScaledWrong : ChangeSpec := { name := "certifyScaled", fn := fun _ => fun
  | [d1, d2] => { results := [.lit (.bool false)], args := [d1, d2] }
  | _ => none }
def CertifyScaledWrongFalsely : Prop := certifyScaledRow.holds Try.pinned (OpenSpec.ofChange certifyScaledWrong)

/-- 'soundpostlaw24.CertifyPlans': WHATEVER THE INPUT: true; the input reads as it did. -/
def certifyPlansSpec : ChangeSpec := { name := "certifyPlans", fn := fun _ => fun
  | [d1, d2] => { results := [.lit (.bool true)], args := [d1, d2] }
  | _ => none }
def certifyPlansRow : OpenClaim := { program := "ytcidkahhfdcddaa", sum := "ef7d87f1a49e49e2a24ccd81fd85a2ab0e5241d783fb1282174b64356c0afed4", func := "soundpost/soundpostlaw24.CertifyPlans", spec := "certifyPlans", unfollowed := true, recurses := true, apart := false }
def CertifyPlansSaid : Prop := certifyPlansRow.holds Try.pinned (OpenSpec.ofChange certifyPlansSpec)

/-- ITS FALSE NEIGHBOUR: 'it returns false'. Refute it at one input. -/
def certifyPlansWrong : ChangeSpec := { name := "certifyPlans", fn := fun _ => fun
  | [d1, d2] => { results := [.lit (.bool false)], args := [d1, d2] }
  | _ => none }
def CertifyPlansWrongFalsely : Prop := certifyPlansRow.holds Try.pinned (OpenSpec.ofChange certifyPlansWrong)

/- THE SECOND FORM. 'bulk': how many values and letters a reading holds, each counted each time it is reached (what is shared counts as often as it is met; a slice's spare places count too). A statement '..UptoSaid' is the law's where the arguments, and the package variables that the reading takes, are together of bulk at most 1048576: NARROWER than '..Said'. Prove '..Said' where nothing that the law and all that it calls make is longer than what came in: it says more and counts as full. Else prove '..UptoSaid'. A law counts once. -/
mutual
def uptoBulk {H : Type} : DataW H → Nat
  | .lit (.string bytes) => bytes.length + 1
  | .lit _ => 1
  | .nil => 1
  | .ptr d => uptoBulk d + 1
  | .slice elems spare => uptoBulkAll elems + uptoBulkAll spare + 1
  | .agg parts => uptoBulkAll parts + 1
  | .iface _ d => uptoBulk d + 1
  | .map entries => uptoBulkEntries entries + 1
  | .held _ => 1
def uptoBulkAll {H : Type} : List (DataW H) → Nat
  | [] => 0
  | d :: r => uptoBulk d + uptoBulkAll r
def uptoBulkEntries {H : Type} : List (Lit × DataW H) → Nat
  | [] => 0
  | x :: r => uptoBulkEntry x + uptoBulkEntries r
def uptoBulkEntry {H : Type} : Lit × DataW H → Nat
  | (.string bytes, d) => bytes.length + uptoBulk d + 1
  | (_, d) => uptoBulk d + 1
 end
def uptoSmall : (H : Type) → List (DataW H) → Bool := fun _ ds => decide (uptoBulkAll ds ≤ 1048576)
def OpenSpec.upto (s : _root_.Go.ChangeSpec) : _root_.Go.OpenSpec := { _root_.Go.OpenSpec.ofChange s with cond := some uptoSmall }

/-- 'soundposttop.TopPlan', WHERE WHAT IT READS IS OF BULK AT MOST 1048576: true; the input reads as it did. -/
def topPlanUptoRow : OpenClaim := { program := "ytcidkahhfdcddaa", sum := "ef7d87f1a49e49e2a24ccd81fd85a2ab0e5241d783fb1282174b64356c0afed4", func := "soundpost/soundposttop.TopPlan", spec := "topPlan", unfollowed := true, recurses := true, apart := false, narrowed := true }
def TopPlanUptoSaid : Prop := topPlanUptoRow.holds Try.pinned (OpenSpec.upto topPlanSpec)

/-- 'soundpostlaw24.CertifySpec', WHERE WHAT IT READS IS OF BULK AT MOST 1048576: true; the input reads as it did. -/
def certifySpecUptoRow : OpenClaim := { program := "ytcidkahhfdcddaa", sum := "ef7d87f1a49e49e2a24ccd81fd85a2ab0e5241d783fb1282174b64356c0afed4", func := "soundpost/soundpostlaw24.CertifySpec", spec := "certifySpec", unfollowed := true, recurses := true, apart := false, narrowed := true }
def CertifySpecUptoSaid : Prop := certifySpecUptoRow.holds Try.pinned (OpenSpec.upto certifySpecSpec)

/-- 'soundpostlaw24.CertifyMakeSpec', WHERE WHAT IT READS IS OF BULK AT MOST 1048576: true; the input reads as it did. -/
def certifyMakeSpecUptoRow : OpenClaim := { program := "ytcidkahhfdcddaa", sum := "ef7d87f1a49e49e2a24ccd81fd85a2ab0e5241d783fb1282174b64356c0afed4", func := "soundpost/soundpostlaw24.CertifyMakeSpec", spec := "certifyMakeSpec", unfollowed := true, recurses := true, apart := false, narrowed := true }
def CertifyMakeSpecUptoSaid : Prop := certifyMakeSpecUptoRow.holds Try.pinned (OpenSpec.upto certifyMakeSpecSpec)

/-- 'soundpostlaw24.CertifyBounds', WHERE WHAT IT READS IS OF BULK AT MOST 1048576: true; the input reads as it did. -/
def certifyBoundsUptoRow : OpenClaim := { program := "ytcidkahhfdcddaa", sum := "ef7d87f1a49e49e2a24ccd81fd85a2ab0e5241d783fb1282174b64356c0afed4", func := "soundpost/soundpostlaw24.CertifyBounds", spec := "certifyBounds", unfollowed := true, recurses := true, apart := false, narrowed := true }
def CertifyBoundsUptoSaid : Prop := certifyBoundsUptoRow.holds Try.pinned (OpenSpec.upto certifyBoundsSpec)

/-- 'soundpostlaw24.CertifyMean', WHERE WHAT IT READS IS OF BULK AT MOST 1048576: true; the input reads as it did. -/
def certifyMeanUptoRow : OpenClaim := { program := "ytcidkahhfdcddaa", sum := "ef7d87f1a49e49e2a24ccd81fd85a2ab0e5241d783fb1282174b64356c0afed4", func := "soundpost/soundpostlaw24.CertifyMean", spec := "certifyMean", unfollowed := true, recurses := true, apart := false, narrowed := true }
def CertifyMeanUptoSaid : Prop := certifyMeanUptoRow.holds Try.pinned (OpenSpec.upto certifyMeanSpec)

/-- 'soundpostlaw24.CertifyScaled', WHERE WHAT IT READS IS OF BULK AT MOST 1048576: true; the input reads as it did. -/
def certifyScaledUptoRow : OpenClaim := { program := "ytcidkahhfdcddaa", sum := "ef7d87f1a49e49e2a24ccd81fd85a2ab0e5241d783fb1282174b64356c0afed4", func := "soundpost/soundpostlaw24.CertifyScaled", spec := "certifyScaled", unfollowed := true, recurses := true, apart := false, narrowed := true }
def CertifyScaledUptoSaid : Prop := certifyScaledUptoRow.holds Try.pinned (OpenSpec.upto certifyScaledSpec)

/-- 'soundpostlaw24.CertifyPlans', WHERE WHAT IT READS IS OF BULK AT MOST 1048576: true; the input reads as it did. -/
def certifyPlansUptoRow : OpenClaim := { program := "ytcidkahhfdcddaa", sum := "ef7d87f1a49e49e2a24ccd81fd85a2ab0e5241d783fb1282174b64356c0afed4", func := "soundpost/soundpostlaw24.CertifyPlans", spec := "certifyPlans", unfollowed := true, recurses := true, apart := false, narrowed := true }
def CertifyPlansUptoSaid : Prop := certifyPlansUptoRow.holds Try.pinned (OpenSpec.upto certifyPlansSpec)

end Rows
end Go.Proofs.Ytcidkahhfdcddaa
