/-
  No cell of these rows narrows 'for every input' (looked for: loops, veiled, ifaces, maps, wideKeys, modest, calm, conditions, laid).
  DERIVED. THE GIVEN ROWS OF THIS SEAT. 7 by the template 'for every input the law returns true; each argument reads behind the call as it read before'; 0 by the template 'total and deterministic' (their statements: YtkieenlidehdgaaTotals.lean).
  GIVEN WITH THE SEED: the statements are not yours to turn. If you find one false, say at which input.
  Laid BY PROGRAM, IN A SANDBOX (cutbox-rows.mjs): the forced cells as the released guide's own fill.sh prints them over the translation 9105297efb29e0f0… (all of the seat's roots in one cut). By AI agents, Wed Nov 11 2026. No macro, syntax, notation, axiom, sorry.
-/
import Derived.Test.YtkieenlidehdgaaChecked
import GoSem.Claim
import GoSem.ClaimJoined
import GoSem.ClaimMapViews
import Derived.JoinedTies
import Derived.KernelRfl
namespace Go.Proofs.Ytkieenlidehdgaa
/- THE CELL 'sum', in the pinned program and in every row, IS THE sha256 OF THE DUMP (.gsa) THAT YtkieenlidehdgaaProg.lean LOADS. Nothing in Lean hashes anything: it is a label: what it is worth is what the hold of that sum in a sandbox is worth. -/
noncomputable def Try.pinned : Pinned := { name := "ytkieenlidehdgaa", sum := "9105297efb29e0f0e2659a1c5c9235f3af1ce31d9b029f0cb86f46ccad492c3e", checked := Try.checked }
namespace Rows
def none {H : Type} : Left H := { results := [], args := [] }

/-- 'soundpostlaw23.PlanMemorySpec': WHATEVER THE INPUT: true; the input reads as it did. -/
def planMemorySpecSpec : ChangeSpec := { name := "planMemorySpec", fn := fun _ => fun
  | [d1, d2] => { results := [.lit (.bool true)], args := [d1, d2] }
  | _ => none }
def planMemorySpecRow : OpenClaim := { program := "ytkieenlidehdgaa", sum := "9105297efb29e0f0e2659a1c5c9235f3af1ce31d9b029f0cb86f46ccad492c3e", func := "soundpost/soundpostlaw23.PlanMemorySpec", spec := "planMemorySpec", unfollowed := true, recurses := true, apart := false }
def PlanMemorySpecSaid : Prop := planMemorySpecRow.holds Try.pinned (OpenSpec.ofChange planMemorySpecSpec)

/-- ITS FALSE NEIGHBOUR: 'it returns false'. Refute it at one input. -/
def planMemorySpecWrong : ChangeSpec := { name := "planMemorySpec", fn := fun _ => fun
  | [d1, d2] => { results := [.lit (.bool false)], args := [d1, d2] }
  | _ => none }
def PlanMemorySpecWrongFalsely : Prop := planMemorySpecRow.holds Try.pinned (OpenSpec.ofChange planMemorySpecWrong)

/-- 'soundpostlaw23.PlanMakeSpec': WHATEVER THE INPUT: true; the input reads as it did. -/
def planMakeSpecSpec : ChangeSpec := { name := "planMakeSpec", fn := fun _ => fun
  | [d] => { results := [.lit (.bool true)], args := [d] }
  | _ => none }
def planMakeSpecRow : OpenClaim := { program := "ytkieenlidehdgaa", sum := "9105297efb29e0f0e2659a1c5c9235f3af1ce31d9b029f0cb86f46ccad492c3e", func := "soundpost/soundpostlaw23.PlanMakeSpec", spec := "planMakeSpec", unfollowed := true, recurses := true, apart := false }
def PlanMakeSpecSaid : Prop := planMakeSpecRow.holds Try.pinned (OpenSpec.ofChange planMakeSpecSpec)

/-- ITS FALSE NEIGHBOUR: 'it returns false'. Refute it at one input. -/
def planMakeSpecWrong : ChangeSpec := { name := "planMakeSpec", fn := fun _ => fun
  | [d] => { results := [.lit (.bool false)], args := [d] }
  | _ => none }
def PlanMakeSpecWrongFalsely : Prop := planMakeSpecRow.holds Try.pinned (OpenSpec.ofChange planMakeSpecWrong)

/-- 'soundpostlaw23.PlanOptimal': WHATEVER THE INPUT: true; the input reads as it did. -/
def planOptimalSpec : ChangeSpec := { name := "planOptimal", fn := fun _ => fun
  | [d1, d2] => { results := [.lit (.bool true)], args := [d1, d2] }
  | _ => none }
def planOptimalRow : OpenClaim := { program := "ytkieenlidehdgaa", sum := "9105297efb29e0f0e2659a1c5c9235f3af1ce31d9b029f0cb86f46ccad492c3e", func := "soundpost/soundpostlaw23.PlanOptimal", spec := "planOptimal", unfollowed := true, recurses := true, apart := false }
def PlanOptimalSaid : Prop := planOptimalRow.holds Try.pinned (OpenSpec.ofChange planOptimalSpec)

/-- ITS FALSE NEIGHBOUR: 'it returns false'. Refute it at one input. -/
def planOptimalWrong : ChangeSpec := { name := "planOptimal", fn := fun _ => fun
  | [d1, d2] => { results := [.lit (.bool false)], args := [d1, d2] }
  | _ => none }
def PlanOptimalWrongFalsely : Prop := planOptimalRow.holds Try.pinned (OpenSpec.ofChange planOptimalWrong)

/-- 'soundpostlaw23.PlanMeets': WHATEVER THE INPUT: true; the input reads as it did. -/
def planMeetsSpec : ChangeSpec := { name := "planMeets", fn := fun _ => fun
  | [d1, d2] => { results := [.lit (.bool true)], args := [d1, d2] }
  | _ => none }
def planMeetsRow : OpenClaim := { program := "ytkieenlidehdgaa", sum := "9105297efb29e0f0e2659a1c5c9235f3af1ce31d9b029f0cb86f46ccad492c3e", func := "soundpost/soundpostlaw23.PlanMeets", spec := "planMeets", unfollowed := true, recurses := true, apart := false }
def PlanMeetsSaid : Prop := planMeetsRow.holds Try.pinned (OpenSpec.ofChange planMeetsSpec)

/-- ITS FALSE NEIGHBOUR: 'it returns false'. Refute it at one input. -/
def planMeetsWrong : ChangeSpec := { name := "planMeets", fn := fun _ => fun
  | [d1, d2] => { results := [.lit (.bool false)], args := [d1, d2] }
  | _ => none }
def PlanMeetsWrongFalsely : Prop := planMeetsRow.holds Try.pinned (OpenSpec.ofChange planMeetsWrong)

/-- 'soundpostlaw23.PlanLater': WHATEVER THE INPUT: true; the input reads as it did. -/
def planLaterSpec : ChangeSpec := { name := "planLater", fn := fun _ => fun
  | [d1, d2, d3] => { results := [.lit (.bool true)], args := [d1, d2, d3] }
  | _ => none }
def planLaterRow : OpenClaim := { program := "ytkieenlidehdgaa", sum := "9105297efb29e0f0e2659a1c5c9235f3af1ce31d9b029f0cb86f46ccad492c3e", func := "soundpost/soundpostlaw23.PlanLater", spec := "planLater", unfollowed := true, recurses := true, apart := false }
def PlanLaterSaid : Prop := planLaterRow.holds Try.pinned (OpenSpec.ofChange planLaterSpec)

/-- ITS FALSE NEIGHBOUR: 'it returns false'. Refute it at one input. -/
def planLaterWrong : ChangeSpec := { name := "planLater", fn := fun _ => fun
  | [d1, d2, d3] => { results := [.lit (.bool false)], args := [d1, d2, d3] }
  | _ => none }
def PlanLaterWrongFalsely : Prop := planLaterRow.holds Try.pinned (OpenSpec.ofChange planLaterWrong)

/-- 'soundpostlaw23.PlanLattice': WHATEVER THE INPUT: true; the input reads as it did. -/
def planLatticeSpec : ChangeSpec := { name := "planLattice", fn := fun _ => fun
  | [d1, d2, d3] => { results := [.lit (.bool true)], args := [d1, d2, d3] }
  | _ => none }
def planLatticeRow : OpenClaim := { program := "ytkieenlidehdgaa", sum := "9105297efb29e0f0e2659a1c5c9235f3af1ce31d9b029f0cb86f46ccad492c3e", func := "soundpost/soundpostlaw23.PlanLattice", spec := "planLattice", unfollowed := true, recurses := true, apart := false }
def PlanLatticeSaid : Prop := planLatticeRow.holds Try.pinned (OpenSpec.ofChange planLatticeSpec)

/-- ITS FALSE NEIGHBOUR: 'it returns false'. Refute it at one input. -/
def planLatticeWrong : ChangeSpec := { name := "planLattice", fn := fun _ => fun
  | [d1, d2, d3] => { results := [.lit (.bool false)], args := [d1, d2, d3] }
  | _ => none }
def PlanLatticeWrongFalsely : Prop := planLatticeRow.holds Try.pinned (OpenSpec.ofChange planLatticeWrong)

/-- 'soundpostlaw23.PlanDelayed': WHATEVER THE INPUT: true; the input reads as it did. -/
def planDelayedSpec : ChangeSpec := { name := "planDelayed", fn := fun _ => fun
  | [d1, d2, d3] => { results := [.lit (.bool true)], args := [d1, d2, d3] }
  | _ => none }
def planDelayedRow : OpenClaim := { program := "ytkieenlidehdgaa", sum := "9105297efb29e0f0e2659a1c5c9235f3af1ce31d9b029f0cb86f46ccad492c3e", func := "soundpost/soundpostlaw23.PlanDelayed", spec := "planDelayed", unfollowed := true, recurses := true, apart := false }
def PlanDelayedSaid : Prop := planDelayedRow.holds Try.pinned (OpenSpec.ofChange planDelayedSpec)

/-- ITS FALSE NEIGHBOUR: 'it returns false'. Refute it at one input. -/
def planDelayedWrong : ChangeSpec := { name := "planDelayed", fn := fun _ => fun
  | [d1, d2, d3] => { results := [.lit (.bool false)], args := [d1, d2, d3] }
  | _ => none }
def PlanDelayedWrongFalsely : Prop := planDelayedRow.holds Try.pinned (OpenSpec.ofChange planDelayedWrong)

/- THE SECOND FORM. 'bulk': how many values and letters a reading holds, each counted each time it is reached (what is shared counts as often as it is met; a slice's spare places count too). A statement '..UptoSaid' is the law's where the arguments, and the package variables that the reading takes, are together of bulk at most 1048576: NARROWER than '..Said'. Prove '..Said' where nothing that the law and all that it calls make is longer than what came in: it says more and counts as full. Else prove '..UptoSaid'. A law counts once. -/
mutual
def uptoBulk {H : Type} : DataW H → Nat
  | .lit (.string bytes) => bytes.length + 1
  | .lit _ => 1
  | .nil => 1
  | .ptr d => uptoBulk d + 1
  | .slice elems spare => uptoBulkAll elems + uptoBulkAll spare + 1
  | .agg parts => uptoBulkAll parts + 1
  | .iface _ d => uptoBulk d + 1
  | .map entries => uptoBulkEntries entries + 1
  | .held _ => 1
def uptoBulkAll {H : Type} : List (DataW H) → Nat
  | [] => 0
  | d :: r => uptoBulk d + uptoBulkAll r
def uptoBulkEntries {H : Type} : List (Lit × DataW H) → Nat
  | [] => 0
  | x :: r => uptoBulkEntry x + uptoBulkEntries r
def uptoBulkEntry {H : Type} : Lit × DataW H → Nat
  | (.string bytes, d) => bytes.length + uptoBulk d + 1
  | (_, d) => uptoBulk d + 1
 end
def uptoSmall : (H : Type) → List (DataW H) → Bool := fun _ ds => decide (uptoBulkAll ds ≤ 1048576)
def OpenSpec.upto (s : _root_.Go.ChangeSpec) : _root_.Go.OpenSpec := { _root_.Go.OpenSpec.ofChange s with cond := some uptoSmall }

/-- 'soundpostlaw23.PlanMemorySpec', WHERE WHAT IT READS IS OF BULK AT MOST 1048576: true; the input reads as it did. -/
def planMemorySpecUptoRow : OpenClaim := { program := "ytkieenlidehdgaa", sum := "9105297efb29e0f0e2659a1c5c9235f3af1ce31d9b029f0cb86f46ccad492c3e", func := "soundpost/soundpostlaw23.PlanMemorySpec", spec := "planMemorySpec", unfollowed := true, recurses := true, apart := false, narrowed := true }
def PlanMemorySpecUptoSaid : Prop := planMemorySpecUptoRow.holds Try.pinned (OpenSpec.upto planMemorySpecSpec)

/-- 'soundpostlaw23.PlanMakeSpec', WHERE WHAT IT READS IS OF BULK AT MOST 1048576: true; the input reads as it did. -/
def planMakeSpecUptoRow : OpenClaim := { program := "ytkieenlidehdgaa", sum := "9105297efb29e0f0e2659a1c5c9235f3af1ce31d9b029f0cb86f46ccad492c3e", func := "soundpost/soundpostlaw23.PlanMakeSpec", spec := "planMakeSpec", unfollowed := true, recurses := true, apart := false, narrowed := true }
def PlanMakeSpecUptoSaid : Prop := planMakeSpecUptoRow.holds Try.pinned (OpenSpec.upto planMakeSpecSpec)

/-- 'soundpostlaw23.PlanOptimal', WHERE WHAT IT READS IS OF BULK AT MOST 1048576: true; the input reads as it did. -/
def planOptimalUptoRow : OpenClaim := { program := "ytkieenlidehdgaa", sum := "9105297efb29e0f0e2659a1c5c9235f3af1ce31d9b029f0cb86f46ccad492c3e", func := "soundpost/soundpostlaw23.PlanOptimal", spec := "planOptimal", unfollowed := true, recurses := true, apart := false, narrowed := true }
def PlanOptimalUptoSaid : Prop := planOptimalUptoRow.holds Try.pinned (OpenSpec.upto planOptimalSpec)

/-- 'soundpostlaw23.PlanMeets', WHERE WHAT IT READS IS OF BULK AT MOST 1048576: true; the input reads as it did. -/
def planMeetsUptoRow : OpenClaim := { program := "ytkieenlidehdgaa", sum := "9105297efb29e0f0e2659a1c5c9235f3af1ce31d9b029f0cb86f46ccad492c3e", func := "soundpost/soundpostlaw23.PlanMeets", spec := "planMeets", unfollowed := true, recurses := true, apart := false, narrowed := true }
def PlanMeetsUptoSaid : Prop := planMeetsUptoRow.holds Try.pinned (OpenSpec.upto planMeetsSpec)

/-- 'soundpostlaw23.PlanLater', WHERE WHAT IT READS IS OF BULK AT MOST 1048576: true; the input reads as it did. -/
def planLaterUptoRow : OpenClaim := { program := "ytkieenlidehdgaa", sum := "9105297efb29e0f0e2659a1c5c9235f3af1ce31d9b029f0cb86f46ccad492c3e", func := "soundpost/soundpostlaw23.PlanLater", spec := "planLater", unfollowed := true, recurses := true, apart := false, narrowed := true }
def PlanLaterUptoSaid : Prop := planLaterUptoRow.holds Try.pinned (OpenSpec.upto planLaterSpec)

/-- 'soundpostlaw23.PlanLattice', WHERE WHAT IT READS IS OF BULK AT MOST 1048576: true; the input reads as it did. -/
def planLatticeUptoRow : OpenClaim := { program := "ytkieenlidehdgaa", sum := "9105297efb29e0f0e2659a1c5c9235f3af1ce31d9b029f0cb86f46ccad492c3e", func := "soundpost/soundpostlaw23.PlanLattice", spec := "planLattice", unfollowed := true, recurses := true, apart := false, narrowed := true }
def PlanLatticeUptoSaid : Prop := planLatticeUptoRow.holds Try.pinned (OpenSpec.upto planLatticeSpec)

/-- 'soundpostlaw23.PlanDelayed', WHERE WHAT IT READS IS OF BULK AT MOST 1048576: true; the input reads as it did. -/
def planDelayedUptoRow : OpenClaim := { program := "ytkieenlidehdgaa", sum := "9105297efb29e0f0e2659a1c5c9235f3af1ce31d9b029f0cb86f46ccad492c3e", func := "soundpost/soundpostlaw23.PlanDelayed", spec := "planDelayed", unfollowed := true, recurses := true, apart := false, narrowed := true }
def PlanDelayedUptoSaid : Prop := planDelayedUptoRow.holds Try.pinned (OpenSpec.upto planDelayedSpec)

end Rows
end Go.Proofs.Ytkieenlidehdgaa
