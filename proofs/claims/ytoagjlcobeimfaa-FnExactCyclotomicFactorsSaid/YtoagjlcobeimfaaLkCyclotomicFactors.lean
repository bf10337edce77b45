/-
  The program's CyclotomicFactors returns what the reference's returns, for all arguments.
  THE WALK THROUGH 'laws.FnExactCyclotomicFactors', out of the contracts of what it calls.
-/
import Derived.Test.YtoagjlcobeimfaaWlkYA
import Derived.Test.YtoagjlcobeimfaaWlkL1
import Derived.Test.YtoagjlcobeimfaaWlkL4
namespace Go.Proofs.Ytoagjlcobeimfaa.fnExactCyclotomicFactors
open Go.RowKit
set_option linter.unusedVariables false
open Pl K WA WL WB WY
set_option maxHeartbeats 1600000 in
theorem walk (w : World) (v0 : Value) (x0 : List Int) (is0 : Is w w.heap.size v0 x0) (wf0 : ∀ n ∈ x0, (Lit.int .i64 n).wf = true) (z0 : x0.length * 8 ≤ 140737488351232) :
    Calls Try.prog 4 #[v0] w fun e w' => e = .returned (.bool true) ∧ Below w.heap.size w w' := by
  obtain ⟨A0, n0, c0, rfl, hnc0, hcm0, hrd0⟩ := id is0
  have Hlen0 := Lib.hid hrd0.len
  have Z0 := Lib.hid z0
  unfold maxLen at hcm0
  clear wf0 z0 hrd0
  by_cases hbig0 : 1048576 < n0
  · go_enter Try.func4, Try.ntmps4
    go_wp2_with fail
    go_ret
    exact ⟨rfl, Below.refl _ _⟩
  have Hn0 := Lib.hid (show x0.length ≤ 1048576 by rw [Hlen0.out]; omega)
  have hw0 : Below w.heap.size w w := Below.refl _ _
  go_enter Try.func4, Try.ntmps4
  go_wp2_with fail
  refine (toInt64S_any _ _ x0 _ (is0.below hw0) hw0.size Z0.out).mono ?_
  rintro e w1 ⟨y1, rfl, ow1, hb1⟩
  have hs1 := hb1.size
  have hw1 : Below w.heap.size w w1 := hw0.trans (hb1.mono hw0.size)
  clear hb1 hw0
  go_wp2_with fail
  refine (sCyclotomicFactors_any _ _ x0 _ ow1.is (Nat.le_refl _)).mono ?_
  rintro e w2 ⟨g2, rfl, ow2, hb2⟩
  have hs2 := hb2.size
  have o1 := ow1.later hb2
  have hw2 : Below w.heap.size w w2 := hw1.trans (hb2.mono hw1.size)
  clear ow1 hb2 hw1
  go_wp2_with fail
  refine (toInt64S_any _ _ x0 _ (is0.below hw2) hw2.size Z0.out).mono ?_
  rintro e w3 ⟨y3, rfl, ow3, hb3⟩
  have hs3 := hb3.size
  have o2 := o1.later hb3
  have o3 := ow2.later hb3
  have hw3 : Below w.heap.size w w3 := hw2.trans (hb3.mono hw2.size)
  clear o1 ow2 hb3 hw2
  go_wp2_with fail
  refine (CyclotomicFactors_any _ _ x0 _ ow3.is (Nat.le_refl _)).mono ?_
  rintro e w4 ⟨g4, rfl, ow4, hb4⟩
  have hs4 := hb4.size
  have o4 := o2.later hb4
  have o5 := o3.later hb4
  have o6 := ow3.later hb4
  have hw4 : Below w.heap.size w w4 := hw3.trans (hb4.mono hw3.size)
  clear o2 o3 ow3 hb4 hw3
  go_wp2_with fail
  refine (eqInt64SS_any _ _ _ _ _ _ _ (ow4.is) (o5.is) (Nat.le_refl _) (Nat.le_refl _)).mono ?_
  rintro e w5 ⟨rfl, hb5⟩
  have hs5 := hb5.size
  have o7 := o4.later hb5
  have o8 := o5.later hb5
  have o9 := o6.later hb5
  have o10 := ow4.later hb5
  have hw5 : Below w.heap.size w w5 := hw4.trans (hb5.mono hw4.size)
  clear o4 o5 o6 ow4 hb5 hw4
  go_wp2_with fail
  refine (toInt64S_any _ _ x0 _ (is0.below hw5) hw5.size Z0.out).mono ?_
  rintro e w6 ⟨y6, rfl, ow6, hb6⟩
  have hs6 := hb6.size
  have o11 := o7.later hb6
  have o12 := o8.later hb6
  have o13 := o9.later hb6
  have o14 := o10.later hb6
  have hw6 : Below w.heap.size w w6 := hw5.trans (hb6.mono hw5.size)
  clear o7 o8 o9 o10 hb6 hw5
  go_wp2_with fail
  refine (eqInt64S_any _ _ _ _ _ _ _ (o13.is) (ow6.is) (Nat.le_refl _) (Nat.le_refl _)).mono ?_
  rintro e w7 ⟨rfl, hb7⟩
  have hs7 := hb7.size
  have o15 := o11.later hb7
  have o16 := o12.later hb7
  have o17 := o13.later hb7
  have o18 := o14.later hb7
  have o19 := ow6.later hb7
  have hw7 : Below w.heap.size w w7 := hw6.trans (hb7.mono hw6.size)
  clear o11 o12 o13 o14 ow6 hb7 hw6
  go_wp2_with fail
  refine (markInt64S_any _ _ _ x0 _ _ o17 (by omega) (by have := Hn0.out; omega)).mono ?_
  rintro e w8 ⟨rfl, ow8, hb8⟩
  have hs8 := hb8.size
  have o20 := o15.keep hb8 (.inl (by omega))
  have o21 := o16.keep hb8 (.inl (by omega))
  have o22 := o18.keep hb8 (.inr (by omega))
  have hw8 : Below w.heap.size w w8 := hw7.trans (hb8.below hw7.size (.inl (by omega)))
  clear o15 o16 o18 o17 hb8 hw7
  go_wp2_with fail
  refine (eqInt64SS_any _ _ _ _ _ _ _ (o22.is) (o21.is) (Nat.le_refl _) (Nat.le_refl _)).mono ?_
  rintro e w9 ⟨rfl, hb9⟩
  have hs9 := hb9.size
  have o23 := o20.later hb9
  have o24 := o21.later hb9
  have o25 := o22.later hb9
  have hw9 : Below w.heap.size w w9 := hw8.trans (hb9.mono hw8.size)
  clear o20 o21 o22 hb9 hw8
  have HL := Lib.hid (show tot ((cfaF x0).1) ((cfaF x0).1).length ≤ 1000000000000 from tot_pairs (cfaF_pairs x0) (cfaF_len x0))
  go_wp2_with fail
  refine (markInt64SS_any _ _ _ ((cfaF x0).1) _ _ o25 (by omega) (by have := HL.out; omega)).mono ?_
  rintro e w10 ⟨rfl, ow10, hb10⟩
  have hs10 := hb10.size
  have o26 := o23.keep hb10 (.inl (by omega))
  have o27 := o24.keep hb10 (.inl (by omega))
  have hw10 : Below w.heap.size w w10 := hw9.trans (hb10.below hw9.size (.inl (by omega)))
  clear o23 o24 o25 hb10 hw9
  go_wp2_with fail
  refine (heldInt64SS_any _ _ ((cfaF x0).1) _ _ (ow10.is) (Nat.le_refl _) (by omega) (by have := HL.out; omega)).mono ?_
  rintro e w11 ⟨rfl, hb11⟩
  have hs11 := hb11.size
  have o28 := o26.later hb11
  have o29 := o27.later hb11
  have o30 := ow10.later hb11
  have hw11 : Below w.heap.size w w11 := hw10.trans (hb11.mono hw10.size)
  clear o26 o27 ow10 hb11 hw10
  go_wp2_with fail
  refine (toInt64S_any _ _ x0 _ (is0.below hw11) hw11.size Z0.out).mono ?_
  rintro e w12 ⟨y12, rfl, ow12, hb12⟩
  have hs12 := hb12.size
  have o31 := o28.later hb12
  have o32 := o29.later hb12
  have o33 := o30.later hb12
  have hw12 : Below w.heap.size w w12 := hw11.trans (hb12.mono hw11.size)
  clear o28 o29 o30 hb12 hw11
  go_wp2_with fail
  refine (CyclotomicFactors_any _ _ x0 _ ow12.is (Nat.le_refl _)).mono ?_
  rintro e w13 ⟨g13, rfl, ow13, hb13⟩
  have hs13 := hb13.size
  have o34 := o31.later hb13
  have o35 := o32.later hb13
  have o36 := o33.later hb13
  have o37 := ow12.later hb13
  have hw13 : Below w.heap.size w w13 := hw12.trans (hb13.mono hw12.size)
  clear o31 o32 o33 ow12 hb13 hw12
  go_wp2_with fail
  refine (eqInt64SS_any _ _ _ _ _ _ _ (ow13.is) (o35.is) (Nat.le_refl _) (Nat.le_refl _)).mono ?_
  rintro e w14 ⟨rfl, hb14⟩
  have hs14 := hb14.size
  have o38 := o34.later hb14
  have o39 := o35.later hb14
  have o40 := o36.later hb14
  have o41 := ow13.later hb14
  have hw14 : Below w.heap.size w w14 := hw13.trans (hb14.mono hw13.size)
  clear o34 o35 o36 ow13 hb14 hw13
  go_wp2_with fail
  refine (heldInt64SS_any _ _ ((cfaF x0).1) _ _ (o40.is) (Nat.le_refl _) (by omega) (by have := HL.out; omega)).mono ?_
  rintro e w15 ⟨rfl, hb15⟩
  have hs15 := hb15.size
  have o42 := o38.later hb15
  have o43 := o39.later hb15
  have o44 := o40.later hb15
  have o45 := o41.later hb15
  have hw15 : Below w.heap.size w w15 := hw14.trans (hb15.mono hw14.size)
  clear o38 o39 o40 o41 hb15 hw14
  go_wp2_with fail
  go_ret
  exact ⟨rfl, hw15⟩
end Go.Proofs.Ytoagjlcobeimfaa.fnExactCyclotomicFactors
