/-
  WALKS, CHAPTER 1: common divisors.
-/
import Derived.Test.YtdfhkkngbpidaaaDoorWlkA1
namespace Go.Proofs.YtdfhkkngbpidaaaDoor
open Go.RowKit
set_option linter.unusedVariables false
namespace WA
open K Pl

end WA
end Go.Proofs.YtdfhkkngbpidaaaDoor
