/-
  WALKS, CHAPTER 1: common divisors.
-/
import Derived.Test.YtpclplagkjimmaaWlkA1
namespace Go.Proofs.Ytpclplagkjimmaa
open Go.RowKit
set_option linter.unusedVariables false
namespace WA
open K Pl

end WA
end Go.Proofs.Ytpclplagkjimmaa
