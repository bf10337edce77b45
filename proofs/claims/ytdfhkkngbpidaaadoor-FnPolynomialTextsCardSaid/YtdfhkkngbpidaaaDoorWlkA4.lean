/-
  WALKS, CHAPTER 1: fractions in lowest terms.
-/
import Derived.Test.YtdfhkkngbpidaaaDoorWlkA2
import Derived.RegionTactic
import Derived.BigRegion
namespace Go.Proofs.YtdfhkkngbpidaaaDoor
open Go.RowKit
set_option linter.unusedVariables false
namespace WA
open K Pl

/-- A function that returns one fraction. -/
def Fr1 (t b : Int) (w : World) (e : Ending) (w' : World) : Prop := e = .returned (.agg #[.int .i64 t, .int .i64 b]) ∧ Below w.heap.size w w'

end WA
end Go.Proofs.YtdfhkkngbpidaaaDoor
