/-
  WALKS, CHAPTER 1: common divisors.
-/
import Derived.Test.YtmileckhhiohfaaDoorWlkA1
namespace Go.Proofs.YtmileckhhiohfaaDoor
open Go.RowKit
set_option linter.unusedVariables false
namespace WA
open K Pl

end WA
end Go.Proofs.YtmileckhhiohfaaDoor
