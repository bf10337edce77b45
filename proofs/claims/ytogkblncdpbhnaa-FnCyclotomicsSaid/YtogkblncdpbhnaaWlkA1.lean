/-
  WALKS, CHAPTER 1: the small functions on ranges and divisors, each by its contract: what it returns; the world as it was, or grown at most.
-/
import Derived.Test.YtogkblncdpbhnaaKit
import Derived.Test.YtogkblncdpbhnaaPlA
import Derived.Deep.QuietTactic
import Derived.BigQuiet
namespace Go.Proofs.Ytogkblncdpbhnaa
open Go.RowKit
set_option linter.unusedVariables false
namespace WA
open K Pl

theorem inRange_any (n l m : Int) (w : World) : Calls Try.prog 34 #[.int .i64 n, .int .i64 l, .int .i64 m] w fun e w' => e = .returned (.bool (inR n l m)) ∧ w = w' := by
  unfold inR
  by_cases h1 : l ≤ n <;> by_cases h2 : n ≤ m <;>
  · go_enter Try.func34, Try.ntmps34
    go_wp2
    go_ret
    exact ⟨by simp [h1, h2], rfl⟩
theorem l01In_any (n l m : Int) (w : World) : Calls Try.prog 36 #[.int .i64 n, .int .i64 l, .int .i64 m] w fun e w' => e = .returned (.bool (inR n l m)) ∧ w = w' := by
  unfold inR
  by_cases h1 : l ≤ n <;> by_cases h2 : n ≤ m <;>
  · go_enter Try.func36, Try.ntmps36
    go_wp2
    go_ret
    exact ⟨by simp [h1, h2], rfl⟩
theorem abs_any (n : Int) (w : World) (h : -9223372036854775807 ≤ n) (h' : n ≤ 9223372036854775807) : Calls Try.prog 30 #[.int .i64 n] w fun e w' => e = .returned (.int .i64 (absI n)) ∧ w = w' := by
  by_cases h0 : n < 0
  · go_enter Try.func30, Try.ntmps30
    go_wp2
    go_ret
    exact ⟨ret_i (absI_neg h0).symm, rfl⟩
  · have H := Lib.hid (absI_pos h0)
    go_enter Try.func30, Try.ntmps30
    go_wp2
    go_ret
    exact ⟨ret_i H.out.symm, rfl⟩
end WA
end Go.Proofs.Ytogkblncdpbhnaa
