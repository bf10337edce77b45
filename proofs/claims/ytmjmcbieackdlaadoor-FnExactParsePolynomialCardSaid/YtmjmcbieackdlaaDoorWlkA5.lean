/-
  WALKS, CHAPTER 1: fractions: is it one, sums, products, which is less.
-/
import Derived.Test.YtmjmcbieackdlaaDoorWlkA4
namespace Go.Proofs.YtmjmcbieackdlaaDoor
open Go.RowKit
set_option linter.unusedVariables false
namespace WA
open K Pl
end WA
end Go.Proofs.YtmjmcbieackdlaaDoor
