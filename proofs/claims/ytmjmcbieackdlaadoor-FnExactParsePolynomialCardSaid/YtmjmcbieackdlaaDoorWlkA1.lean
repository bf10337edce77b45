/-
  WALKS, CHAPTER 1: the small functions on ranges and divisors, each by its contract: what it returns; the world as it was, or grown at most.
-/
import Derived.Test.YtmjmcbieackdlaaDoorKit
import Derived.Test.YtmjmcbieackdlaaDoorPlA
import Derived.Deep.QuietTactic
import Derived.BigQuiet
namespace Go.Proofs.YtmjmcbieackdlaaDoor
open Go.RowKit
set_option linter.unusedVariables false
namespace WA
open K Pl

theorem inRange_any (n l m : Int) (w : World) : Calls Tryd.prog 30 #[.int .i64 n, .int .i64 l, .int .i64 m] w fun e w' => e = .returned (.bool (inR n l m)) ∧ w = w' := by
  unfold inR
  by_cases h1 : l ≤ n <;> by_cases h2 : n ≤ m <;>
  · go_enter Tryd.func30, Tryd.ntmps30
    go_wp2
    go_ret
    exact ⟨by simp [h1, h2], rfl⟩
theorem l01In_any (n l m : Int) (w : World) : Calls Tryd.prog 18 #[.int .i64 n, .int .i64 l, .int .i64 m] w fun e w' => e = .returned (.bool (inR n l m)) ∧ w = w' := by
  unfold inR
  by_cases h1 : l ≤ n <;> by_cases h2 : n ≤ m <;>
  · go_enter Tryd.func18, Tryd.ntmps18
    go_wp2
    go_ret
    exact ⟨by simp [h1, h2], rfl⟩
end WA
end Go.Proofs.YtmjmcbieackdlaaDoor
