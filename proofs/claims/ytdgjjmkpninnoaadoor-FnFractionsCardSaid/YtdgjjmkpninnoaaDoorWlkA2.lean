/-
  WALKS, CHAPTER 1: common divisors.
-/
import Derived.Test.YtdgjjmkpninnoaaDoorWlkA1
namespace Go.Proofs.YtdgjjmkpninnoaaDoor
open Go.RowKit
set_option linter.unusedVariables false
namespace WA
open K Pl

theorem CommonDivisor_any (a b : Int) (w : World) : Calls Tryd.prog 19 #[.int .i64 a, .int .i64 b] w fun e w' => e = .returned (.tuple #[.int .i64 (cdv a b).1, .int .i64 (cdv a b).2]) ∧ Below w.heap.size w w' := by
  unfold cdv
  cases hA : isInt a
  · go_enter Tryd.func19, Tryd.ntmps19
    go_wp2_with (go_at_call 32; refine (isInteger_any _ _).mono ?_; rintro e w' ⟨rfl, rfl⟩)
    go_ret2
    exact ⟨rfl, Below.refl _ _⟩
  · cases hB : isInt b
    · go_enter Tryd.func19, Tryd.ntmps19
      go_wp2_with (go_at_call 32; refine (isInteger_any _ _).mono ?_; rintro e w' ⟨rfl, rfl⟩)
      go_ret2
      exact ⟨rfl, Below.refl _ _⟩
    · have ba := isInt_true.1 hA
      have bb := isInt_true.1 hB
      go_enter Tryd.func19, Tryd.ntmps19
      go_wp2_with (first | (go_at_call 32; refine (isInteger_any _ _).mono ?_; rintro e w' ⟨rfl, rfl⟩) | (go_at_call 40; refine (divisor_any _ _ _ (by omega) (by omega) (by omega) (by omega)).mono ?_; rintro e w1 ⟨rfl, hb1⟩))
      go_ret2
      exact ⟨rfl, hb1⟩
end WA
end Go.Proofs.YtdgjjmkpninnoaaDoor
