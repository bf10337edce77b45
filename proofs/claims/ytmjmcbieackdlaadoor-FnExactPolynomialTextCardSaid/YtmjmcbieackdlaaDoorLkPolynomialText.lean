/-
  The program's PolynomialText returns what the reference's returns, for all arguments.
  THE WALK THROUGH 'laws.FnExactPolynomialText', out of the contracts of what it calls.
-/
import Derived.Test.YtmjmcbieackdlaaDoorWlkZ2
import Derived.Test.YtmjmcbieackdlaaDoorWlkL1
namespace Go.Proofs.YtmjmcbieackdlaaDoor.fnExactPolynomialText
open Go.RowKit
set_option linter.unusedVariables false
open Pl K WA WL WW WX WB WZ
set_option maxHeartbeats 1600000 in
theorem walk (w : World) (v0 : Value) (x0 : List Int) (is0 : Is w w.heap.size v0 x0) (wf0 : ∀ n ∈ x0, (Lit.int .i64 n).wf = true) (z0 : x0.length * 8 ≤ 140737488351232) (ht : Tab w) :
    Calls Tryd.prog 3 #[v0] w fun e w' => e = .returned (.bool true) ∧ Below w.heap.size w w' := by
  obtain ⟨A0, n0, c0, rfl, hnc0, hcm0, hrd0⟩ := id is0
  have Hlen0 := Lib.hid hrd0.len
  have Z0 := Lib.hid z0
  unfold maxLen at hcm0
  clear wf0 z0 hrd0
  by_cases hbig0 : 1048576 < n0
  · go_enter Tryd.func3, Tryd.ntmps3
    go_wp2_with fail
    go_ret
    exact ⟨rfl, Below.refl _ _⟩
  have Hn0 := Lib.hid (show x0.length ≤ 1048576 by rw [Hlen0.out]; omega)
  have hw0 : Below w.heap.size w w := Below.refl _ _
  go_enter Tryd.func3, Tryd.ntmps3
  go_wp2_with fail
  refine (toInt64S_any _ _ x0 _ (is0.below hw0) hw0.size Z0.out).mono ?_
  rintro e w1 ⟨y1, rfl, ow1, hb1⟩
  have hs1 := hb1.size
  have hw1 : Below w.heap.size w w1 := hw0.trans (hb1.mono hw0.size)
  clear hb1 hw0
  go_wp2_with fail
  refine (sPolynomialText_any _ _ x0 _ ow1.is (Nat.le_refl _)).mono ?_
  rintro e w2 ⟨rfl, hb2⟩
  have hs2 := hb2.size
  have o1 := ow1.later hb2
  have hw2 : Below w.heap.size w w2 := hw1.trans (hb2.mono hw1.size)
  clear ow1 hb2 hw1
  go_wp2_with fail
  refine (toInt64S_any _ _ x0 _ (is0.below hw2) hw2.size Z0.out).mono ?_
  rintro e w3 ⟨y3, rfl, ow3, hb3⟩
  have hs3 := hb3.size
  have o2 := o1.later hb3
  have hw3 : Below w.heap.size w w3 := hw2.trans (hb3.mono hw2.size)
  clear o1 hb3 hw2
  go_wp2_with fail
  refine (PolynomialText_any _ _ x0 _ ow3.is (Nat.le_refl _) (ht.later hw3)).mono ?_
  rintro e w4 ⟨rfl, hb4⟩
  have hs4 := hb4.size
  have o3 := o2.later hb4
  have o4 := ow3.later hb4
  have hw4 : Below w.heap.size w w4 := hw3.trans (hb4.mono hw3.size)
  clear o2 ow3 hb4 hw3
  go_wp2_with fail
  refine (toInt64S_any _ _ x0 _ (is0.below hw4) hw4.size Z0.out).mono ?_
  rintro e w5 ⟨y5, rfl, ow5, hb5⟩
  have hs5 := hb5.size
  have o5 := o3.later hb5
  have o6 := o4.later hb5
  have hw5 : Below w.heap.size w w5 := hw4.trans (hb5.mono hw4.size)
  clear o3 o4 hb5 hw4
  go_wp2_with fail
  refine (eqInt64S_any _ _ _ _ _ _ _ (o6.is) (ow5.is) (Nat.le_refl _) (Nat.le_refl _)).mono ?_
  rintro e w6 ⟨rfl, hb6⟩
  have hs6 := hb6.size
  have o7 := o5.later hb6
  have o8 := o6.later hb6
  have o9 := ow5.later hb6
  have hw6 : Below w.heap.size w w6 := hw5.trans (hb6.mono hw5.size)
  clear o5 o6 ow5 hb6 hw5
  go_wp2_with fail
  go_ret
  exact ⟨rfl, hw6⟩
end Go.Proofs.YtmjmcbieackdlaaDoor.fnExactPolynomialText
