/-
  WALKS, CHAPTER 1: common divisors.
-/
import Derived.Test.YtmkfbcabpkendaaWlkA1
namespace Go.Proofs.Ytmkfbcabpkendaa
open Go.RowKit
set_option linter.unusedVariables false
namespace WA
open K Pl

end WA
end Go.Proofs.Ytmkfbcabpkendaa
