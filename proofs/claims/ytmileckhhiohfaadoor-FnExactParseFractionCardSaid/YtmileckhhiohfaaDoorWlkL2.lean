/-
  WALKS, THE STATEMENTS' OWN HELPERS OVER FRACTIONS: eqFraction, toFraction.
-/
import Derived.Test.YtmileckhhiohfaaDoorKit
namespace Go.Proofs.YtmileckhhiohfaaDoor
open Go.RowKit
set_option linter.unusedVariables false
namespace WL
open K Pl
theorem eqFraction_any (a b c d : Int) (w : World) : Calls Tryd.prog 10 #[.agg #[.int .i64 a, .int .i64 b], .agg #[.int .i64 c, .int .i64 d]] w fun e w' => e = .returned (.bool (a == c && b == d)) ∧ Below w.heap.size w w' := by
  by_cases h1 : a = c
  · have e1 : (a != c) = false := by simp [h1]
    have E1 := Lib.hid (show (a == c) = true by simp [h1])
    clear h1
    by_cases h2 : b = d
    · have e2 : (b != d) = false := by simp [h2]
      have E2 := Lib.hid (show (b == d) = true by simp [h2])
      clear h2
      go_enter Tryd.func10, Tryd.ntmps10
      go_wp2
      go_ret
      exact ⟨ret_b (by rw [E1.out, E2.out]; rfl), by go_grown⟩
    · have e2 : (b != d) = true := by simp [h2]
      have E2 := Lib.hid (show (b == d) = false by simp [h2])
      clear h2
      go_enter Tryd.func10, Tryd.ntmps10
      go_wp2
      go_ret
      exact ⟨ret_b (by rw [E1.out, E2.out]; rfl), by go_grown⟩
  · have e1 : (a != c) = true := by simp [h1]
    have E1 := Lib.hid (show (a == c) = false by simp [h1])
    clear h1
    go_enter Tryd.func10, Tryd.ntmps10
    go_wp2
    go_ret
    exact ⟨ret_b (by rw [E1.out]; rfl), by go_grown⟩
theorem toFraction_any (a b : Int) (w : World) : Calls Tryd.prog 6 #[.agg #[.int .i64 a, .int .i64 b]] w fun e w' => e = .returned (.agg #[.int .i64 a, .int .i64 b]) ∧ Below w.heap.size w w' := by
  go_enter Tryd.func6, Tryd.ntmps6
  go_wp2
  refine bodyPost_ret (v := .agg #[.int .i64 a, .int .i64 b]) (by simp [results, Tryd.results6, go_sem]) rfl ⟨rfl, ?_⟩
  go_grown
end WL
end Go.Proofs.YtmileckhhiohfaaDoor
