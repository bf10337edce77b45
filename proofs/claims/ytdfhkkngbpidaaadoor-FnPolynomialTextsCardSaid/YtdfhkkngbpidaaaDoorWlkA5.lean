/-
  WALKS, CHAPTER 1: fractions: is it one, sums, products, which is less.
-/
import Derived.Test.YtdfhkkngbpidaaaDoorWlkA4
namespace Go.Proofs.YtdfhkkngbpidaaaDoor
open Go.RowKit
set_option linter.unusedVariables false
namespace WA
open K Pl
end WA
end Go.Proofs.YtdfhkkngbpidaaaDoor
