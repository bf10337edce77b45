/-
  WALKS, CHAPTER 1: the small functions on ranges and divisors, each by its contract: what it returns; the world as it was, or grown at most.
-/
import Derived.Test.YtdfhkkngbpidaaaDoorKit
import Derived.Test.YtdfhkkngbpidaaaDoorPlA
import Derived.Deep.QuietTactic
import Derived.BigQuiet
namespace Go.Proofs.YtdfhkkngbpidaaaDoor
open Go.RowKit
set_option linter.unusedVariables false
namespace WA
open K Pl

theorem inRange_any (n l m : Int) (w : World) : Calls Tryd.prog 36 #[.int .i64 n, .int .i64 l, .int .i64 m] w fun e w' => e = .returned (.bool (inR n l m)) ∧ w = w' := by
  unfold inR
  by_cases h1 : l ≤ n <;> by_cases h2 : n ≤ m <;>
  · go_enter Tryd.func36, Tryd.ntmps36
    go_wp2
    go_ret
    exact ⟨by simp [h1, h2], rfl⟩
theorem l01In_any (n l m : Int) (w : World) : Calls Tryd.prog 33 #[.int .i64 n, .int .i64 l, .int .i64 m] w fun e w' => e = .returned (.bool (inR n l m)) ∧ w = w' := by
  unfold inR
  by_cases h1 : l ≤ n <;> by_cases h2 : n ≤ m <;>
  · go_enter Tryd.func33, Tryd.ntmps33
    go_wp2
    go_ret
    exact ⟨by simp [h1, h2], rfl⟩
end WA
end Go.Proofs.YtdfhkkngbpidaaaDoor
