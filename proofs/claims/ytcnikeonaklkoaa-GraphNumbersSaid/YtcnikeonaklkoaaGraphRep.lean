/- Graphs as immutable data. No program in sight. -/
import Derived.Test.YtcnikeonaklkoaaRange
import Derived.Test.YtcnikeonaklkoaaGraph3
namespace Go.Proofs.Ytcnikeonaklkoaa
open Go
set_option linter.unusedVariables false
set_option linter.unusedSimpArgs false

abbrev intsD (l : List Int) : D := rowsD 1 l.length [.ints .i64 l]
abbrev Edg.ds (e : Edg) : List D := [.v (.int .i64 e.f), .v (.int .i64 e.t), .v (.int .i64 e.w), .v (.int .i64 e.d)]
abbrev edgesD (l : List Edg) : D := .rows 4 l.length fun i => (l.getD i default).ds
abbrev Gr.ds (g : Gr) : List D := [intsD g.lat, edgesD g.es]
abbrev Gr.av (g : Gr) : AV := .d (.agg g.ds)
/-- Within what can be laid in memory. -/
structure Gr.Sz (g : Gr) : Prop where
  n : g.lat.length ≤ 4611686018427387904
  m : g.es.length ≤ 4611686018427387904
  lat : ∀ x ∈ g.lat, -9223372036854775808 ≤ x ∧ x ≤ 9223372036854775807
  es : ∀ e ∈ g.es, (-9223372036854775808 ≤ e.f ∧ e.f ≤ 9223372036854775807) ∧ (-9223372036854775808 ≤ e.t ∧ e.t ≤ 9223372036854775807) ∧ (-9223372036854775808 ≤ e.w ∧ e.w ≤ 9223372036854775807) ∧ -9223372036854775808 ≤ e.d ∧ e.d ≤ 9223372036854775807

end Go.Proofs.Ytcnikeonaklkoaa
