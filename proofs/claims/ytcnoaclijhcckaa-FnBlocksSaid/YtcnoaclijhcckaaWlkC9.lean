/-
  WALKS, CHAPTER 3: pairs.
-/
import Derived.Test.YtcnoaclijhcckaaWlkC5
import Derived.Test.YtcnoaclijhcckaaWlkR2
import Derived.Test.YtcnoaclijhcckaaKitT
import Derived.Test.YtcnoaclijhcckaaPlH
namespace Go.Proofs.Ytcnoaclijhcckaa
open Go.RowKit
set_option linter.unusedVariables false
namespace WC
open K Pl WA WL
theorem div_eq64 {a b : Int} (ha : 0 ≤ a) (hb : 1 ≤ b) (ha' : a ≤ 9000000000000000000) : IntKind.i64.wrap (a.tdiv b) = a / b ∧ 0 ≤ a / b ∧ a / b ≤ a := by
  rw [Int.tdiv_eq_ediv_of_nonneg ha]
  have h1 : 0 ≤ a / b := Int.ediv_nonneg ha (by omega)
  have h2 : a / b ≤ a := Int.ediv_le_self _ ha
  exact ⟨IntWalk.i64_in _ (by omega), h1, h2⟩
end WC
end Go.Proofs.Ytcnoaclijhcckaa
