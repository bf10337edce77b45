/-
  WALKS, CHAPTER 1: common divisors.
-/
import Derived.Test.YtdmphhenocoinaaWlkA1
namespace Go.Proofs.Ytdmphhenocoinaa
open Go.RowKit
set_option linter.unusedVariables false
namespace WA
open K Pl

end WA
end Go.Proofs.Ytdmphhenocoinaa
