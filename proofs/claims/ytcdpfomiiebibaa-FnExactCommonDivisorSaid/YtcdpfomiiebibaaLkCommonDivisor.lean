/-
  The program's CommonDivisor returns what the reference's returns, for all arguments.
  THE WALK THROUGH 'laws.FnExactCommonDivisor', out of the contracts of what it calls.
-/
import Derived.Test.YtcdpfomiiebibaaWlkA2
namespace Go.Proofs.Ytcdpfomiiebibaa.fnExactCommonDivisor
open Go.RowKit
set_option linter.unusedVariables false
open Pl K WA
set_option maxHeartbeats 1600000 in
theorem walk (w : World) (a0 : Int) (wf0 : (Lit.int .i64 a0).wf = true) (a1 : Int) (wf1 : (Lit.int .i64 a1).wf = true) :
    Calls Try.prog 4 #[.int .i64 a0, .int .i64 a1] w fun e w' => e = .returned (.bool true) ∧ Below w.heap.size w w' := by
  have hw0 : Below w.heap.size w w := Below.refl _ _
  go_enter Try.func4, Try.ntmps4
  go_wp2_with fail
  refine (sCommonDivisor_any _ _ _).mono ?_
  rintro e w1 ⟨rfl, hb1⟩
  have hs1 := hb1.size
  have hw1 : Below w.heap.size w w1 := hw0.trans (hb1.mono hw0.size)
  clear hb1 hw0
  go_wp2_with fail
  refine (CommonDivisor_any _ _ _).mono ?_
  rintro e w2 ⟨rfl, hb2⟩
  have hs2 := hb2.size
  have hw2 : Below w.heap.size w w2 := hw1.trans (hb2.mono hw1.size)
  clear hb2 hw1
  go_wp2_with fail
  go_ret
  exact ⟨rfl, hw2⟩
end Go.Proofs.Ytcdpfomiiebibaa.fnExactCommonDivisor
