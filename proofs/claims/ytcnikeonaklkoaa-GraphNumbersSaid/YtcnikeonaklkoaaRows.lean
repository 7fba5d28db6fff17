/-
  No cell of these rows narrows 'for every input' (looked for: loops, veiled, ifaces, maps, wideKeys, modest, calm, conditions, laid).
  DERIVED. THE GIVEN ROWS OF THIS SEAT. 7 by the template 'for every input the law returns true; each argument reads behind the call as it read before'; 0 by the template 'total and deterministic' (their statements: YtcnikeonaklkoaaTotals.lean).
  GIVEN WITH THE SEED: the statements are not yours to turn. If you find one false, say at which input.
  Laid BY PROGRAM, IN A SANDBOX (cutbox-rows.mjs): the forced cells as the released guide's own fill.sh prints them over the translation 352d3ee912b13ca5… (all of the seat's roots in one cut). By AI agents, Wed Nov 11 2026. No macro, syntax, notation, axiom, sorry.
-/
import Derived.Test.YtcnikeonaklkoaaChecked
import GoSem.Claim
import GoSem.ClaimJoined
import GoSem.ClaimMapViews
import Derived.JoinedTies
import Derived.KernelRfl
namespace Go.Proofs.Ytcnikeonaklkoaa
/- THE CELL 'sum', in the pinned program and in every row, IS THE sha256 OF THE DUMP (.gsa) THAT YtcnikeonaklkoaaProg.lean LOADS. Nothing in Lean hashes anything: it is a label: what it is worth is what the hold of that sum in a sandbox is worth. -/
noncomputable def Try.pinned : Pinned := { name := "ytcnikeonaklkoaa", sum := "352d3ee912b13ca52be3413646954f43fe5da9ac3d47eaef1e596f6b4588ebcb", checked := Try.checked }
namespace Rows
def none {H : Type} : Left H := { results := [], args := [] }

/-- 'soundpostlaw21.GraphCheckSpec': WHATEVER THE INPUT: true; the input reads as it did. -/
def graphCheckSpecSpec : ChangeSpec := { name := "graphCheckSpec", fn := fun _ => fun
  | [d] => { results := [.lit (.bool true)], args := [d] }
  | _ => none }
def graphCheckSpecRow : OpenClaim := { program := "ytcnikeonaklkoaa", sum := "352d3ee912b13ca52be3413646954f43fe5da9ac3d47eaef1e596f6b4588ebcb", func := "soundpost/soundpostlaw21.GraphCheckSpec", spec := "graphCheckSpec", unfollowed := true, recurses := true, apart := false }
def GraphCheckSpecSaid : Prop := graphCheckSpecRow.holds Try.pinned (OpenSpec.ofChange graphCheckSpecSpec)

/-- ITS FALSE NEIGHBOUR: 'it returns false'. Refute it at one input. -/
def graphCheckSpecWrong : ChangeSpec := { name := "graphCheckSpec", fn := fun _ => fun
  | [d] => { results := [.lit (.bool false)], args := [d] }
  | _ => none }
def GraphCheckSpecWrongFalsely : Prop := graphCheckSpecRow.holds Try.pinned (OpenSpec.ofChange graphCheckSpecWrong)

/-- 'soundpostlaw21.GraphReachSpec': WHATEVER THE INPUT: true; the input reads as it did. -/
def graphReachSpecSpec : ChangeSpec := { name := "graphReachSpec", fn := fun _ => fun
  | [d1, d2] => { results := [.lit (.bool true)], args := [d1, d2] }
  | _ => none }
def graphReachSpecRow : OpenClaim := { program := "ytcnikeonaklkoaa", sum := "352d3ee912b13ca52be3413646954f43fe5da9ac3d47eaef1e596f6b4588ebcb", func := "soundpost/soundpostlaw21.GraphReachSpec", spec := "graphReachSpec", unfollowed := true, recurses := true, apart := false }
def GraphReachSpecSaid : Prop := graphReachSpecRow.holds Try.pinned (OpenSpec.ofChange graphReachSpecSpec)

/-- ITS FALSE NEIGHBOUR: 'it returns false'. Refute it at one input. -/
def graphReachSpecWrong : ChangeSpec := { name := "graphReachSpec", fn := fun _ => fun
  | [d1, d2] => { results := [.lit (.bool false)], args := [d1, d2] }
  | _ => none }
def GraphReachSpecWrongFalsely : Prop := graphReachSpecRow.holds Try.pinned (OpenSpec.ofChange graphReachSpecWrong)

/-- 'soundpostlaw21.GraphLoop': WHATEVER THE INPUT: true; the input reads as it did. -/
def graphLoopSpec : ChangeSpec := { name := "graphLoop", fn := fun _ => fun
  | [d] => { results := [.lit (.bool true)], args := [d] }
  | _ => none }
def graphLoopRow : OpenClaim := { program := "ytcnikeonaklkoaa", sum := "352d3ee912b13ca52be3413646954f43fe5da9ac3d47eaef1e596f6b4588ebcb", func := "soundpost/soundpostlaw21.GraphLoop", spec := "graphLoop", unfollowed := true, recurses := true, apart := false }
def GraphLoopSaid : Prop := graphLoopRow.holds Try.pinned (OpenSpec.ofChange graphLoopSpec)

/-- ITS FALSE NEIGHBOUR: 'it returns false'. Refute it at one input. -/
def graphLoopWrong : ChangeSpec := { name := "graphLoop", fn := fun _ => fun
  | [d] => { results := [.lit (.bool false)], args := [d] }
  | _ => none }
def GraphLoopWrongFalsely : Prop := graphLoopRow.holds Try.pinned (OpenSpec.ofChange graphLoopWrong)

/-- 'soundpostlaw21.GraphFound': WHATEVER THE INPUT: true; the input reads as it did. -/
def graphFoundSpec : ChangeSpec := { name := "graphFound", fn := fun _ => fun
  | [d1, d2, d3] => { results := [.lit (.bool true)], args := [d1, d2, d3] }
  | _ => none }
def graphFoundRow : OpenClaim := { program := "ytcnikeonaklkoaa", sum := "352d3ee912b13ca52be3413646954f43fe5da9ac3d47eaef1e596f6b4588ebcb", func := "soundpost/soundpostlaw21.GraphFound", spec := "graphFound", unfollowed := true, recurses := true, apart := false }
def GraphFoundSaid : Prop := graphFoundRow.holds Try.pinned (OpenSpec.ofChange graphFoundSpec)

/-- ITS FALSE NEIGHBOUR: 'it returns false'. Refute it at one input. -/
def graphFoundWrong : ChangeSpec := { name := "graphFound", fn := fun _ => fun
  | [d1, d2, d3] => { results := [.lit (.bool false)], args := [d1, d2, d3] }
  | _ => none }
def GraphFoundWrongFalsely : Prop := graphFoundRow.holds Try.pinned (OpenSpec.ofChange graphFoundWrong)

/-- 'soundpostlaw21.GraphEasier': WHATEVER THE INPUT: true; the input reads as it did. -/
def graphEasierSpec : ChangeSpec := { name := "graphEasier", fn := fun _ => fun
  | [d1, d2, d3, d4] => { results := [.lit (.bool true)], args := [d1, d2, d3, d4] }
  | _ => none }
def graphEasierRow : OpenClaim := { program := "ytcnikeonaklkoaa", sum := "352d3ee912b13ca52be3413646954f43fe5da9ac3d47eaef1e596f6b4588ebcb", func := "soundpost/soundpostlaw21.GraphEasier", spec := "graphEasier", unfollowed := true, recurses := true, apart := false }
def GraphEasierSaid : Prop := graphEasierRow.holds Try.pinned (OpenSpec.ofChange graphEasierSpec)

/-- ITS FALSE NEIGHBOUR: 'it returns false'. Refute it at one input. -/
def graphEasierWrong : ChangeSpec := { name := "graphEasier", fn := fun _ => fun
  | [d1, d2, d3, d4] => { results := [.lit (.bool false)], args := [d1, d2, d3, d4] }
  | _ => none }
def GraphEasierWrongFalsely : Prop := graphEasierRow.holds Try.pinned (OpenSpec.ofChange graphEasierWrong)

/-- 'soundpostlaw21.GraphNumbers': WHATEVER THE INPUT: true; the input reads as it did. -/
def graphNumbersSpec : ChangeSpec := { name := "graphNumbers", fn := fun _ => fun
  | [d1, d2, d3] => { results := [.lit (.bool true)], args := [d1, d2, d3] }
  | _ => none }
def graphNumbersRow : OpenClaim := { program := "ytcnikeonaklkoaa", sum := "352d3ee912b13ca52be3413646954f43fe5da9ac3d47eaef1e596f6b4588ebcb", func := "soundpost/soundpostlaw21.GraphNumbers", spec := "graphNumbers", unfollowed := true, recurses := true, apart := false }
def GraphNumbersSaid : Prop := graphNumbersRow.holds Try.pinned (OpenSpec.ofChange graphNumbersSpec)

/-- ITS FALSE NEIGHBOUR: 'it returns false'. Refute it at one input. -/
def graphNumbersWrong : ChangeSpec := { name := "graphNumbers", fn := fun _ => fun
  | [d1, d2, d3] => { results := [.lit (.bool false)], args := [d1, d2, d3] }
  | _ => none }
def GraphNumbersWrongFalsely : Prop := graphNumbersRow.holds Try.pinned (OpenSpec.ofChange graphNumbersWrong)

/-- 'soundpostlaw21.GraphReached': WHATEVER THE INPUT: true; the input reads as it did. -/
def graphReachedSpec : ChangeSpec := { name := "graphReached", fn := fun _ => fun
  | [d1, d2] => { results := [.lit (.bool true)], args := [d1, d2] }
  | _ => none }
def graphReachedRow : OpenClaim := { program := "ytcnikeonaklkoaa", sum := "352d3ee912b13ca52be3413646954f43fe5da9ac3d47eaef1e596f6b4588ebcb", func := "soundpost/soundpostlaw21.GraphReached", spec := "graphReached", unfollowed := true, recurses := true, apart := false }
def GraphReachedSaid : Prop := graphReachedRow.holds Try.pinned (OpenSpec.ofChange graphReachedSpec)

/-- ITS FALSE NEIGHBOUR: 'it returns false'. Refute it at one input. -/
def graphReachedWrong : ChangeSpec := { name := "graphReached", fn := fun _ => fun
  | [d1, d2] => { results := [.lit (.bool false)], args := [d1, d2] }
  | _ => none }
def GraphReachedWrongFalsely : Prop := graphReachedRow.holds Try.pinned (OpenSpec.ofChange graphReachedWrong)

/- THE SECOND FORM. 'bulk': how many values and letters a reading holds, each counted each time it is reached (what is shared counts as often as it is met; a slice's spare places count too). A statement '..UptoSaid' is the law's where the arguments, and the package variables that the reading takes, are together of bulk at most 1048576: NARROWER than '..Said'. Prove '..Said' where nothing that the law and all that it calls make is longer than what came in: it says more and counts as full. Else prove '..UptoSaid'. A law counts once. -/
mutual
def uptoBulk {H : Type} : DataW H → Nat
  | .lit (.string bytes) => bytes.length + 1
  | .lit _ => 1
  | .nil => 1
  | .ptr d => uptoBulk d + 1
  | .slice elems spare => uptoBulkAll elems + uptoBulkAll spare + 1
  | .agg parts => uptoBulkAll parts + 1
  | .iface _ d => uptoBulk d + 1
  | .map entries => uptoBulkEntries entries + 1
  | .held _ => 1
def uptoBulkAll {H : Type} : List (DataW H) → Nat
  | [] => 0
  | d :: r => uptoBulk d + uptoBulkAll r
def uptoBulkEntries {H : Type} : List (Lit × DataW H) → Nat
  | [] => 0
  | x :: r => uptoBulkEntry x + uptoBulkEntries r
def uptoBulkEntry {H : Type} : Lit × DataW H → Nat
  | (.string bytes, d) => bytes.length + uptoBulk d + 1
  | (_, d) => uptoBulk d + 1
 end
def uptoSmall : (H : Type) → List (DataW H) → Bool := fun _ ds => decide (uptoBulkAll ds ≤ 1048576)
def OpenSpec.upto (s : _root_.Go.ChangeSpec) : _root_.Go.OpenSpec := { _root_.Go.OpenSpec.ofChange s with cond := some uptoSmall }

/-- 'soundpostlaw21.GraphCheckSpec', WHERE WHAT IT READS IS OF BULK AT MOST 1048576: true; the input reads as it did. -/
def graphCheckSpecUptoRow : OpenClaim := { program := "ytcnikeonaklkoaa", sum := "352d3ee912b13ca52be3413646954f43fe5da9ac3d47eaef1e596f6b4588ebcb", func := "soundpost/soundpostlaw21.GraphCheckSpec", spec := "graphCheckSpec", unfollowed := true, recurses := true, apart := false, narrowed := true }
def GraphCheckSpecUptoSaid : Prop := graphCheckSpecUptoRow.holds Try.pinned (OpenSpec.upto graphCheckSpecSpec)

/-- 'soundpostlaw21.GraphReachSpec', WHERE WHAT IT READS IS OF BULK AT MOST 1048576: true; the input reads as it did. -/
def graphReachSpecUptoRow : OpenClaim := { program := "ytcnikeonaklkoaa", sum := "352d3ee912b13ca52be3413646954f43fe5da9ac3d47eaef1e596f6b4588ebcb", func := "soundpost/soundpostlaw21.GraphReachSpec", spec := "graphReachSpec", unfollowed := true, recurses := true, apart := false, narrowed := true }
def GraphReachSpecUptoSaid : Prop := graphReachSpecUptoRow.holds Try.pinned (OpenSpec.upto graphReachSpecSpec)

/-- 'soundpostlaw21.GraphLoop', WHERE WHAT IT READS IS OF BULK AT MOST 1048576: true; the input reads as it did. -/
def graphLoopUptoRow : OpenClaim := { program := "ytcnikeonaklkoaa", sum := "352d3ee912b13ca52be3413646954f43fe5da9ac3d47eaef1e596f6b4588ebcb", func := "soundpost/soundpostlaw21.GraphLoop", spec := "graphLoop", unfollowed := true, recurses := true, apart := false, narrowed := true }
def GraphLoopUptoSaid : Prop := graphLoopUptoRow.holds Try.pinned (OpenSpec.upto graphLoopSpec)

/-- 'soundpostlaw21.GraphFound', WHERE WHAT IT READS IS OF BULK AT MOST 1048576: true; the input reads as it did. -/
def graphFoundUptoRow : OpenClaim := { program := "ytcnikeonaklkoaa", sum := "352d3ee912b13ca52be3413646954f43fe5da9ac3d47eaef1e596f6b4588ebcb", func := "soundpost/soundpostlaw21.GraphFound", spec := "graphFound", unfollowed := true, recurses := true, apart := false, narrowed := true }
def GraphFoundUptoSaid : Prop := graphFoundUptoRow.holds Try.pinned (OpenSpec.upto graphFoundSpec)

/-- 'soundpostlaw21.GraphEasier', WHERE WHAT IT READS IS OF BULK AT MOST 1048576: true; the input reads as it did. -/
def graphEasierUptoRow : OpenClaim := { program := "ytcnikeonaklkoaa", sum := "352d3ee912b13ca52be3413646954f43fe5da9ac3d47eaef1e596f6b4588ebcb", func := "soundpost/soundpostlaw21.GraphEasier", spec := "graphEasier", unfollowed := true, recurses := true, apart := false, narrowed := true }
def GraphEasierUptoSaid : Prop := graphEasierUptoRow.holds Try.pinned (OpenSpec.upto graphEasierSpec)

/-- 'soundpostlaw21.GraphNumbers', WHERE WHAT IT READS IS OF BULK AT MOST 1048576: true; the input reads as it did. -/
def graphNumbersUptoRow : OpenClaim := { program := "ytcnikeonaklkoaa", sum := "352d3ee912b13ca52be3413646954f43fe5da9ac3d47eaef1e596f6b4588ebcb", func := "soundpost/soundpostlaw21.GraphNumbers", spec := "graphNumbers", unfollowed := true, recurses := true, apart := false, narrowed := true }
def GraphNumbersUptoSaid : Prop := graphNumbersUptoRow.holds Try.pinned (OpenSpec.upto graphNumbersSpec)

/-- 'soundpostlaw21.GraphReached', WHERE WHAT IT READS IS OF BULK AT MOST 1048576: true; the input reads as it did. -/
def graphReachedUptoRow : OpenClaim := { program := "ytcnikeonaklkoaa", sum := "352d3ee912b13ca52be3413646954f43fe5da9ac3d47eaef1e596f6b4588ebcb", func := "soundpost/soundpostlaw21.GraphReached", spec := "graphReached", unfollowed := true, recurses := true, apart := false, narrowed := true }
def GraphReachedUptoSaid : Prop := graphReachedUptoRow.holds Try.pinned (OpenSpec.upto graphReachedSpec)

end Rows
end Go.Proofs.Ytcnikeonaklkoaa
