/-
  WALKS: are two lists of numbers the same, asked by four functions.
-/
import Derived.Test.YtoagjlcobeimfaaWlkL1
namespace Go.Proofs.Ytoagjlcobeimfaa
open Go.RowKit
set_option linter.unusedVariables false
namespace WL
open K Pl
end WL
end Go.Proofs.Ytoagjlcobeimfaa
