/-
  WALKS, CHAPTER 1: common divisors.
-/
import Derived.Test.YtdcjdnfopohiaaaWlkA1
namespace Go.Proofs.Ytdcjdnfopohiaaa
open Go.RowKit
set_option linter.unusedVariables false
namespace WA
open K Pl

end WA
end Go.Proofs.Ytdcjdnfopohiaaa
