/-
  WALKS, CHAPTER 1: common divisors.
-/
import Derived.Test.YtmjmcbieackdlaaDoorWlkA1
namespace Go.Proofs.YtmjmcbieackdlaaDoor
open Go.RowKit
set_option linter.unusedVariables false
namespace WA
open K Pl

end WA
end Go.Proofs.YtmjmcbieackdlaaDoor
