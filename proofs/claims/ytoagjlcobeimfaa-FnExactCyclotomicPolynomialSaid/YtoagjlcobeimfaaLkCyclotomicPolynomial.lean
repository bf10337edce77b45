/-
  The program's CyclotomicPolynomial returns what the reference's returns, for all arguments.
  THE WALK THROUGH 'laws.FnExactCyclotomicPolynomial', out of the contracts of what it calls.
-/
import Derived.Test.YtoagjlcobeimfaaWlkY7
import Derived.Test.YtoagjlcobeimfaaWlkL1
namespace Go.Proofs.Ytoagjlcobeimfaa.fnExactCyclotomicPolynomial
open Go.RowKit
set_option linter.unusedVariables false
open Pl K WA WL WB WY
set_option maxHeartbeats 1600000 in
theorem walk (w : World) (a0 : Int) (wf0 : (Lit.int .i64 a0).wf = true) :
    Calls Try.prog 3 #[.int .i64 a0] w fun e w' => e = .returned (.bool true) ∧ Below w.heap.size w w' := by
  have hw0 : Below w.heap.size w w := Below.refl _ _
  go_enter Try.func3, Try.ntmps3
  go_wp2_with fail
  refine (sCyclotomicPolynomial_any _ _).mono ?_
  rintro e w1 ⟨g1, rfl, ow1, hb1⟩
  have hs1 := hb1.size
  have hw1 : Below w.heap.size w w1 := hw0.trans (hb1.mono hw0.size)
  clear hb1 hw0
  go_wp2_with fail
  refine (CyclotomicPolynomial_any _ _).mono ?_
  rintro e w2 ⟨g2, rfl, ow2, hb2⟩
  have hs2 := hb2.size
  have o1 := ow1.later hb2
  have hw2 : Below w.heap.size w w2 := hw1.trans (hb2.mono hw1.size)
  clear ow1 hb2 hw1
  go_wp2_with fail
  refine (eqInt64S_any _ _ _ _ _ _ _ (ow2.is) (o1.is) (Nat.le_refl _) (Nat.le_refl _)).mono ?_
  rintro e w3 ⟨rfl, hb3⟩
  have hs3 := hb3.size
  have o2 := o1.later hb3
  have o3 := ow2.later hb3
  have hw3 : Below w.heap.size w w3 := hw2.trans (hb3.mono hw2.size)
  clear o1 ow2 hb3 hw2
  have HL := Lib.hid (show ((cycF a0).1).length ≤ 1000000000 from (by have := cycF_len a0; omega))
  go_wp2_with fail
  refine (markInt64S_any _ _ _ ((cycF a0).1) _ _ o3 (by omega) (by have := HL.out; omega)).mono ?_
  rintro e w4 ⟨rfl, ow4, hb4⟩
  have hs4 := hb4.size
  have o4 := o2.keep hb4 (.inl (by omega))
  have hw4 : Below w.heap.size w w4 := hw3.trans (hb4.below hw3.size (.inl (by omega)))
  clear o2 o3 hb4 hw3
  go_wp2_with fail
  refine (heldInt64S_any _ _ _ _ _ (ow4.is) (Nat.le_refl _) (by omega) (by have := HL.out; omega)).mono ?_
  rintro e w5 ⟨rfl, hb5⟩
  have hs5 := hb5.size
  have o5 := o4.later hb5
  have o6 := ow4.later hb5
  have hw5 : Below w.heap.size w w5 := hw4.trans (hb5.mono hw4.size)
  clear o4 ow4 hb5 hw4
  go_wp2_with fail
  refine (CyclotomicPolynomial_any _ _).mono ?_
  rintro e w6 ⟨g6, rfl, ow6, hb6⟩
  have hs6 := hb6.size
  have o7 := o5.later hb6
  have o8 := o6.later hb6
  have hw6 : Below w.heap.size w w6 := hw5.trans (hb6.mono hw5.size)
  clear o5 o6 hb6 hw5
  go_wp2_with fail
  refine (eqInt64S_any _ _ _ _ _ _ _ (ow6.is) (o7.is) (Nat.le_refl _) (Nat.le_refl _)).mono ?_
  rintro e w7 ⟨rfl, hb7⟩
  have hs7 := hb7.size
  have o9 := o7.later hb7
  have o10 := o8.later hb7
  have o11 := ow6.later hb7
  have hw7 : Below w.heap.size w w7 := hw6.trans (hb7.mono hw6.size)
  clear o7 o8 ow6 hb7 hw6
  go_wp2_with fail
  refine (heldInt64S_any _ _ _ _ _ (o10.is) (Nat.le_refl _) (by omega) (by have := HL.out; omega)).mono ?_
  rintro e w8 ⟨rfl, hb8⟩
  have hs8 := hb8.size
  have o12 := o9.later hb8
  have o13 := o10.later hb8
  have o14 := o11.later hb8
  have hw8 : Below w.heap.size w w8 := hw7.trans (hb8.mono hw7.size)
  clear o9 o10 o11 hb8 hw7
  go_wp2_with fail
  go_ret
  exact ⟨rfl, hw8⟩
end Go.Proofs.Ytoagjlcobeimfaa.fnExactCyclotomicPolynomial
