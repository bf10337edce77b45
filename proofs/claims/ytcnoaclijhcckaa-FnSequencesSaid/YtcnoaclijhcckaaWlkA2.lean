/-
  WALKS, CHAPTER 1: common divisors.
-/
import Derived.Test.YtcnoaclijhcckaaWlkA1
namespace Go.Proofs.Ytcnoaclijhcckaa
open Go.RowKit
set_option linter.unusedVariables false
namespace WA
open K Pl

end WA
end Go.Proofs.Ytcnoaclijhcckaa
