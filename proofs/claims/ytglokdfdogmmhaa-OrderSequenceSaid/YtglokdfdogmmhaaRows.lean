/-
  No cell of these rows narrows 'for every input' (looked for: loops, veiled, ifaces, maps, wideKeys, modest, calm, conditions, laid).
  DERIVED. THE GIVEN ROWS OF THIS SEAT. 6 by the template 'for every input the law returns true; each argument reads behind the call as it read before'; 0 by the template 'total and deterministic' (their statements: YtglokdfdogmmhaaTotals.lean).
  GIVEN WITH THE SEED: the statements are not yours to turn. If you find one false, say at which input.
  Laid BY PROGRAM, IN A SANDBOX (cutbox-rows.mjs): the forced cells as the released guide's own fill.sh prints them over the translation cf28e7b988af4179… (all of the seat's roots in one cut). By AI agents, Wed Nov 11 2026. No macro, syntax, notation, axiom, sorry.
-/
import Derived.Test.YtglokdfdogmmhaaChecked
import GoSem.Claim
import GoSem.ClaimJoined
import GoSem.ClaimMapViews
import Derived.JoinedTies
import Derived.KernelRfl
namespace Go.Proofs.Ytglokdfdogmmhaa
/- THE CELL 'sum', in the pinned program and in every row, IS THE sha256 OF THE DUMP (.gsa) THAT YtglokdfdogmmhaaProg.lean LOADS. Nothing in Lean hashes anything: it is a label: what it is worth is what the hold of that sum in a sandbox is worth. -/
noncomputable def Try.pinned : Pinned := { name := "ytglokdfdogmmhaa", sum := "cf28e7b988af4179b9ae8825a147ba5eeb20714a494717b4c7e88c69372bf063", checked := Try.checked }
namespace Rows
def none {H : Type} : Left H := { results := [], args := [] }

/-- 'soundpostlaw22.OrderSpec': WHATEVER THE INPUT: true; the input reads as it did. -/
def orderSpecSpec : ChangeSpec := { name := "orderSpec", fn := fun _ => fun
  | [d1, d2] => { results := [.lit (.bool true)], args := [d1, d2] }
  | _ => none }
def orderSpecRow : OpenClaim := { program := "ytglokdfdogmmhaa", sum := "cf28e7b988af4179b9ae8825a147ba5eeb20714a494717b4c7e88c69372bf063", func := "soundpost/soundpostlaw22.OrderSpec", spec := "orderSpec", unfollowed := true, recurses := true, apart := false }
def OrderSpecSaid : Prop := orderSpecRow.holds Try.pinned (OpenSpec.ofChange orderSpecSpec)

/-- ITS FALSE NEIGHBOUR: 'it returns false'. Refute it at one input. -/
def orderSpecWrong : ChangeSpec := { name := "orderSpec", fn := fun _ => fun
  | [d1, d2] => { results := [.lit (.bool false)], args := [d1, d2] }
  | _ => none }
def OrderSpecWrongFalsely : Prop := orderSpecRow.holds Try.pinned (OpenSpec.ofChange orderSpecWrong)

/-- 'soundpostlaw22.OrderLeast': WHATEVER THE INPUT: true; the input reads as it did. -/
def orderLeastSpec : ChangeSpec := { name := "orderLeast", fn := fun _ => fun
  | [d] => { results := [.lit (.bool true)], args := [d] }
  | _ => none }
def orderLeastRow : OpenClaim := { program := "ytglokdfdogmmhaa", sum := "cf28e7b988af4179b9ae8825a147ba5eeb20714a494717b4c7e88c69372bf063", func := "soundpost/soundpostlaw22.OrderLeast", spec := "orderLeast", unfollowed := true, recurses := true, apart := false }
def OrderLeastSaid : Prop := orderLeastRow.holds Try.pinned (OpenSpec.ofChange orderLeastSpec)

/-- ITS FALSE NEIGHBOUR: 'it returns false'. Refute it at one input. -/
def orderLeastWrong : ChangeSpec := { name := "orderLeast", fn := fun _ => fun
  | [d] => { results := [.lit (.bool false)], args := [d] }
  | _ => none }
def OrderLeastWrongFalsely : Prop := orderLeastRow.holds Try.pinned (OpenSpec.ofChange orderLeastWrong)

/-- 'soundpostlaw22.OrderSequence': WHATEVER THE INPUT: true; the input reads as it did. -/
def orderSequenceSpec : ChangeSpec := { name := "orderSequence", fn := fun _ => fun
  | [d1, d2] => { results := [.lit (.bool true)], args := [d1, d2] }
  | _ => none }
def orderSequenceRow : OpenClaim := { program := "ytglokdfdogmmhaa", sum := "cf28e7b988af4179b9ae8825a147ba5eeb20714a494717b4c7e88c69372bf063", func := "soundpost/soundpostlaw22.OrderSequence", spec := "orderSequence", unfollowed := true, recurses := true, apart := false }
def OrderSequenceSaid : Prop := orderSequenceRow.holds Try.pinned (OpenSpec.ofChange orderSequenceSpec)

/-- ITS FALSE NEIGHBOUR: 'it returns false'. Refute it at one input. -/
def orderSequenceWrong : ChangeSpec := { name := "orderSequence", fn := fun _ => fun
  | [d1, d2] => { results := [.lit (.bool false)], args := [d1, d2] }
  | _ => none }
def OrderSequenceWrongFalsely : Prop := orderSequenceRow.holds Try.pinned (OpenSpec.ofChange orderSequenceWrong)

/-- 'soundpostlaw22.OrderLoop': WHATEVER THE INPUT: true; the input reads as it did. -/
def orderLoopSpec : ChangeSpec := { name := "orderLoop", fn := fun _ => fun
  | [d1, d2] => { results := [.lit (.bool true)], args := [d1, d2] }
  | _ => none }
def orderLoopRow : OpenClaim := { program := "ytglokdfdogmmhaa", sum := "cf28e7b988af4179b9ae8825a147ba5eeb20714a494717b4c7e88c69372bf063", func := "soundpost/soundpostlaw22.OrderLoop", spec := "orderLoop", unfollowed := true, recurses := true, apart := false }
def OrderLoopSaid : Prop := orderLoopRow.holds Try.pinned (OpenSpec.ofChange orderLoopSpec)

/-- ITS FALSE NEIGHBOUR: 'it returns false'. Refute it at one input. -/
def orderLoopWrong : ChangeSpec := { name := "orderLoop", fn := fun _ => fun
  | [d1, d2] => { results := [.lit (.bool false)], args := [d1, d2] }
  | _ => none }
def OrderLoopWrongFalsely : Prop := orderLoopRow.holds Try.pinned (OpenSpec.ofChange orderLoopWrong)

/-- 'soundpostlaw22.OrderPlain': WHATEVER THE INPUT: true; the input reads as it did. -/
def orderPlainSpec : ChangeSpec := { name := "orderPlain", fn := fun _ => fun
  | [d1, d2] => { results := [.lit (.bool true)], args := [d1, d2] }
  | _ => none }
def orderPlainRow : OpenClaim := { program := "ytglokdfdogmmhaa", sum := "cf28e7b988af4179b9ae8825a147ba5eeb20714a494717b4c7e88c69372bf063", func := "soundpost/soundpostlaw22.OrderPlain", spec := "orderPlain", unfollowed := true, recurses := true, apart := false }
def OrderPlainSaid : Prop := orderPlainRow.holds Try.pinned (OpenSpec.ofChange orderPlainSpec)

/-- ITS FALSE NEIGHBOUR: 'it returns false'. Refute it at one input. -/
def orderPlainWrong : ChangeSpec := { name := "orderPlain", fn := fun _ => fun
  | [d1, d2] => { results := [.lit (.bool false)], args := [d1, d2] }
  | _ => none }
def OrderPlainWrongFalsely : Prop := orderPlainRow.holds Try.pinned (OpenSpec.ofChange orderPlainWrong)

/-- 'soundpostlaw22.OrderParts': WHATEVER THE INPUT: true; the input reads as it did. -/
def orderPartsSpec : ChangeSpec := { name := "orderParts", fn := fun _ => fun
  | [d] => { results := [.lit (.bool true)], args := [d] }
  | _ => none }
def orderPartsRow : OpenClaim := { program := "ytglokdfdogmmhaa", sum := "cf28e7b988af4179b9ae8825a147ba5eeb20714a494717b4c7e88c69372bf063", func := "soundpost/soundpostlaw22.OrderParts", spec := "orderParts", unfollowed := true, recurses := true, apart := false }
def OrderPartsSaid : Prop := orderPartsRow.holds Try.pinned (OpenSpec.ofChange orderPartsSpec)

/-- ITS FALSE NEIGHBOUR: 'it returns false'. Refute it at one input. -/
def orderPartsWrong : ChangeSpec := { name := "orderParts", fn := fun _ => fun
  | [d] => { results := [.lit (.bool false)], args := [d] }
  | _ => none }
def OrderPartsWrongFalsely : Prop := orderPartsRow.holds Try.pinned (OpenSpec.ofChange orderPartsWrong)

/- THE SECOND FORM. 'bulk': how many values and letters a reading holds, each counted each time it is reached (what is shared counts as often as it is met; a slice's spare places count too). A statement '..UptoSaid' is the law's where the arguments, and the package variables that the reading takes, are together of bulk at most 1048576: NARROWER than '..Said'. Prove '..Said' where nothing that the law and all that it calls make is longer than what came in: it says more and counts as full. Else prove '..UptoSaid'. A law counts once. -/
mutual
def uptoBulk {H : Type} : DataW H → Nat
  | .lit (.string bytes) => bytes.length + 1
  | .lit _ => 1
  | .nil => 1
  | .ptr d => uptoBulk d + 1
  | .slice elems spare => uptoBulkAll elems + uptoBulkAll spare + 1
  | .agg parts => uptoBulkAll parts + 1
  | .iface _ d => uptoBulk d + 1
  | .map entries => uptoBulkEntries entries + 1
  | .held _ => 1
def uptoBulkAll {H : Type} : List (DataW H) → Nat
  | [] => 0
  | d :: r => uptoBulk d + uptoBulkAll r
def uptoBulkEntries {H : Type} : List (Lit × DataW H) → Nat
  | [] => 0
  | x :: r => uptoBulkEntry x + uptoBulkEntries r
def uptoBulkEntry {H : Type} : Lit × DataW H → Nat
  | (.string bytes, d) => bytes.length + uptoBulk d + 1
  | (_, d) => uptoBulk d + 1
 end
def uptoSmall : (H : Type) → List (DataW H) → Bool := fun _ ds => decide (uptoBulkAll ds ≤ 1048576)
def OpenSpec.upto (s : _root_.Go.ChangeSpec) : _root_.Go.OpenSpec := { _root_.Go.OpenSpec.ofChange s with cond := some uptoSmall }

/-- 'soundpostlaw22.OrderSpec', WHERE WHAT IT READS IS OF BULK AT MOST 1048576: true; the input reads as it did. -/
def orderSpecUptoRow : OpenClaim := { program := "ytglokdfdogmmhaa", sum := "cf28e7b988af4179b9ae8825a147ba5eeb20714a494717b4c7e88c69372bf063", func := "soundpost/soundpostlaw22.OrderSpec", spec := "orderSpec", unfollowed := true, recurses := true, apart := false, narrowed := true }
def OrderSpecUptoSaid : Prop := orderSpecUptoRow.holds Try.pinned (OpenSpec.upto orderSpecSpec)

/-- 'soundpostlaw22.OrderLeast', WHERE WHAT IT READS IS OF BULK AT MOST 1048576: true; the input reads as it did. -/
def orderLeastUptoRow : OpenClaim := { program := "ytglokdfdogmmhaa", sum := "cf28e7b988af4179b9ae8825a147ba5eeb20714a494717b4c7e88c69372bf063", func := "soundpost/soundpostlaw22.OrderLeast", spec := "orderLeast", unfollowed := true, recurses := true, apart := false, narrowed := true }
def OrderLeastUptoSaid : Prop := orderLeastUptoRow.holds Try.pinned (OpenSpec.upto orderLeastSpec)

/-- 'soundpostlaw22.OrderSequence', WHERE WHAT IT READS IS OF BULK AT MOST 1048576: true; the input reads as it did. -/
def orderSequenceUptoRow : OpenClaim := { program := "ytglokdfdogmmhaa", sum := "cf28e7b988af4179b9ae8825a147ba5eeb20714a494717b4c7e88c69372bf063", func := "soundpost/soundpostlaw22.OrderSequence", spec := "orderSequence", unfollowed := true, recurses := true, apart := false, narrowed := true }
def OrderSequenceUptoSaid : Prop := orderSequenceUptoRow.holds Try.pinned (OpenSpec.upto orderSequenceSpec)

/-- 'soundpostlaw22.OrderLoop', WHERE WHAT IT READS IS OF BULK AT MOST 1048576: true; the input reads as it did. -/
def orderLoopUptoRow : OpenClaim := { program := "ytglokdfdogmmhaa", sum := "cf28e7b988af4179b9ae8825a147ba5eeb20714a494717b4c7e88c69372bf063", func := "soundpost/soundpostlaw22.OrderLoop", spec := "orderLoop", unfollowed := true, recurses := true, apart := false, narrowed := true }
def OrderLoopUptoSaid : Prop := orderLoopUptoRow.holds Try.pinned (OpenSpec.upto orderLoopSpec)

/-- 'soundpostlaw22.OrderPlain', WHERE WHAT IT READS IS OF BULK AT MOST 1048576: true; the input reads as it did. -/
def orderPlainUptoRow : OpenClaim := { program := "ytglokdfdogmmhaa", sum := "cf28e7b988af4179b9ae8825a147ba5eeb20714a494717b4c7e88c69372bf063", func := "soundpost/soundpostlaw22.OrderPlain", spec := "orderPlain", unfollowed := true, recurses := true, apart := false, narrowed := true }
def OrderPlainUptoSaid : Prop := orderPlainUptoRow.holds Try.pinned (OpenSpec.upto orderPlainSpec)

/-- 'soundpostlaw22.OrderParts', WHERE WHAT IT READS IS OF BULK AT MOST 1048576: true; the input reads as it did. -/
def orderPartsUptoRow : OpenClaim := { program := "ytglokdfdogmmhaa", sum := "cf28e7b988af4179b9ae8825a147ba5eeb20714a494717b4c7e88c69372bf063", func := "soundpost/soundpostlaw22.OrderParts", spec := "orderParts", unfollowed := true, recurses := true, apart := false, narrowed := true }
def OrderPartsUptoSaid : Prop := orderPartsUptoRow.holds Try.pinned (OpenSpec.upto orderPartsSpec)

end Rows
end Go.Proofs.Ytglokdfdogmmhaa
