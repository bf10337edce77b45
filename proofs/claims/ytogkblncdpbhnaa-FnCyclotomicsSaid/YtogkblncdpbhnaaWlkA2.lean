/-
  WALKS, CHAPTER 1: common divisors.
-/
import Derived.Test.YtogkblncdpbhnaaWlkA1
namespace Go.Proofs.Ytogkblncdpbhnaa
open Go.RowKit
set_option linter.unusedVariables false
namespace WA
open K Pl

end WA
end Go.Proofs.Ytogkblncdpbhnaa
