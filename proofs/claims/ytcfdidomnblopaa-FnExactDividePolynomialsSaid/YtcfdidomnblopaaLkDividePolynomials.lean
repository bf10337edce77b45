/-
  The program's DividePolynomials returns what the reference's returns, for all arguments.
  THE WALK THROUGH 'laws.FnExactDividePolynomials', out of the contracts of what it calls.
-/
import Derived.Test.YtcfdidomnblopaaWlkB11
import Derived.Test.YtcfdidomnblopaaWlkL1
namespace Go.Proofs.Ytcfdidomnblopaa.fnExactDividePolynomials
open Go.RowKit
set_option linter.unusedVariables false
open Pl K WA WL WB
set_option maxHeartbeats 1600000 in
theorem walk (w : World) (v0 : Value) (x0 : List Int) (is0 : Is w w.heap.size v0 x0) (wf0 : ∀ n ∈ x0, (Lit.int .i64 n).wf = true) (z0 : x0.length * 8 ≤ 140737488351232) (v1 : Value) (x1 : List Int) (is1 : Is w w.heap.size v1 x1) (wf1 : ∀ n ∈ x1, (Lit.int .i64 n).wf = true) (z1 : x1.length * 8 ≤ 140737488351232) :
    Calls Try.prog 11 #[v0, v1] w fun e w' => e = .returned (.bool true) ∧ Below w.heap.size w w' := by
  obtain ⟨A0, n0, c0, rfl, hnc0, hcm0, hrd0⟩ := id is0
  have Hlen0 := Lib.hid hrd0.len
  have Z0 := Lib.hid z0
  unfold maxLen at hcm0
  clear wf0 z0 hrd0
  obtain ⟨A1, n1, c1, rfl, hnc1, hcm1, hrd1⟩ := id is1
  have Hlen1 := Lib.hid hrd1.len
  have Z1 := Lib.hid z1
  unfold maxLen at hcm1
  clear wf1 z1 hrd1
  by_cases hbig0 : 1048576 < n0
  · go_enter Try.func11, Try.ntmps11
    go_wp2_with fail
    go_ret
    exact ⟨rfl, Below.refl _ _⟩
  by_cases hbig1 : 1048576 < n1
  · go_enter Try.func11, Try.ntmps11
    go_wp2_with fail
    go_ret
    exact ⟨rfl, Below.refl _ _⟩
  have Hn0 := Lib.hid (show x0.length ≤ 1048576 by rw [Hlen0.out]; omega)
  have Hn1 := Lib.hid (show x1.length ≤ 1048576 by rw [Hlen1.out]; omega)
  have hw0 : Below w.heap.size w w := Below.refl _ _
  go_enter Try.func11, Try.ntmps11
  go_wp2_with fail
  refine (toInt64S_any _ _ x0 _ (is0.below hw0) hw0.size Z0.out).mono ?_
  rintro e w1 ⟨y1, rfl, ow1, hb1⟩
  have hs1 := hb1.size
  have hw1 : Below w.heap.size w w1 := hw0.trans (hb1.mono hw0.size)
  clear hb1 hw0
  go_wp2_with fail
  refine (toInt64S_any _ _ x1 _ (is1.below hw1) hw1.size Z1.out).mono ?_
  rintro e w2 ⟨y2, rfl, ow2, hb2⟩
  have hs2 := hb2.size
  have o1 := ow1.later hb2
  have hw2 : Below w.heap.size w w2 := hw1.trans (hb2.mono hw1.size)
  clear ow1 hb2 hw1
  go_wp2_with fail
  refine (sDividePolynomials_any _ _ _ x0 x1 _ o1.is ow2.is (Nat.le_refl _)).mono ?_
  rintro e w3 ⟨g3, rfl, ow3, hb3⟩
  have hs3 := hb3.size
  have o2 := o1.later hb3
  have o3 := ow2.later hb3
  have hw3 : Below w.heap.size w w3 := hw2.trans (hb3.mono hw2.size)
  clear o1 ow2 hb3 hw2
  go_wp2_with fail
  refine (toInt64S_any _ _ x0 _ (is0.below hw3) hw3.size Z0.out).mono ?_
  rintro e w4 ⟨y4, rfl, ow4, hb4⟩
  have hs4 := hb4.size
  have o4 := o2.later hb4
  have o5 := o3.later hb4
  have o6 := ow3.later hb4
  have hw4 : Below w.heap.size w w4 := hw3.trans (hb4.mono hw3.size)
  clear o2 o3 ow3 hb4 hw3
  go_wp2_with fail
  refine (toInt64S_any _ _ x1 _ (is1.below hw4) hw4.size Z1.out).mono ?_
  rintro e w5 ⟨y5, rfl, ow5, hb5⟩
  have hs5 := hb5.size
  have o7 := o4.later hb5
  have o8 := o5.later hb5
  have o9 := o6.later hb5
  have o10 := ow4.later hb5
  have hw5 : Below w.heap.size w w5 := hw4.trans (hb5.mono hw4.size)
  clear o4 o5 o6 ow4 hb5 hw4
  go_wp2_with fail
  refine (DividePolynomials_any _ _ _ x0 x1 _ o10.is ow5.is (Nat.le_refl _)).mono ?_
  rintro e w6 ⟨g6, rfl, ow6, hb6⟩
  have hs6 := hb6.size
  have o11 := o7.later hb6
  have o12 := o8.later hb6
  have o13 := o9.later hb6
  have o14 := o10.later hb6
  have o15 := ow5.later hb6
  have hw6 : Below w.heap.size w w6 := hw5.trans (hb6.mono hw5.size)
  clear o7 o8 o9 o10 ow5 hb6 hw5
  go_wp2_with fail
  refine (eqInt64S_any _ _ _ _ _ _ _ (ow6.is) (o13.is) (Nat.le_refl _) (Nat.le_refl _)).mono ?_
  rintro e w7 ⟨rfl, hb7⟩
  have hs7 := hb7.size
  have o16 := o11.later hb7
  have o17 := o12.later hb7
  have o18 := o13.later hb7
  have o19 := o14.later hb7
  have o20 := o15.later hb7
  have o21 := ow6.later hb7
  have hw7 : Below w.heap.size w w7 := hw6.trans (hb7.mono hw6.size)
  clear o11 o12 o13 o14 o15 ow6 hb7 hw6
  go_wp2_with fail
  refine (toInt64S_any _ _ x0 _ (is0.below hw7) hw7.size Z0.out).mono ?_
  rintro e w8 ⟨y8, rfl, ow8, hb8⟩
  have hs8 := hb8.size
  have o22 := o16.later hb8
  have o23 := o17.later hb8
  have o24 := o18.later hb8
  have o25 := o19.later hb8
  have o26 := o20.later hb8
  have o27 := o21.later hb8
  have hw8 : Below w.heap.size w w8 := hw7.trans (hb8.mono hw7.size)
  clear o16 o17 o18 o19 o20 o21 hb8 hw7
  go_wp2_with fail
  refine (eqInt64S_any _ _ _ _ _ _ _ (o25.is) (ow8.is) (Nat.le_refl _) (Nat.le_refl _)).mono ?_
  rintro e w9 ⟨rfl, hb9⟩
  have hs9 := hb9.size
  have o28 := o22.later hb9
  have o29 := o23.later hb9
  have o30 := o24.later hb9
  have o31 := o25.later hb9
  have o32 := o26.later hb9
  have o33 := o27.later hb9
  have o34 := ow8.later hb9
  have hw9 : Below w.heap.size w w9 := hw8.trans (hb9.mono hw8.size)
  clear o22 o23 o24 o25 o26 o27 ow8 hb9 hw8
  go_wp2_with fail
  refine (toInt64S_any _ _ x1 _ (is1.below hw9) hw9.size Z1.out).mono ?_
  rintro e w10 ⟨y10, rfl, ow10, hb10⟩
  have hs10 := hb10.size
  have o35 := o28.later hb10
  have o36 := o29.later hb10
  have o37 := o30.later hb10
  have o38 := o31.later hb10
  have o39 := o32.later hb10
  have o40 := o33.later hb10
  have hw10 : Below w.heap.size w w10 := hw9.trans (hb10.mono hw9.size)
  clear o28 o29 o30 o31 o32 o33 hb10 hw9
  go_wp2_with fail
  refine (eqInt64S_any _ _ _ _ _ _ _ (o39.is) (ow10.is) (Nat.le_refl _) (Nat.le_refl _)).mono ?_
  rintro e w11 ⟨rfl, hb11⟩
  have hs11 := hb11.size
  have o41 := o35.later hb11
  have o42 := o36.later hb11
  have o43 := o37.later hb11
  have o44 := o38.later hb11
  have o45 := o39.later hb11
  have o46 := o40.later hb11
  have o47 := ow10.later hb11
  have hw11 : Below w.heap.size w w11 := hw10.trans (hb11.mono hw10.size)
  clear o35 o36 o37 o38 o39 o40 ow10 hb11 hw10
  go_wp2_with fail
  refine (markInt64S_any _ _ _ x0 _ _ o44 (by omega) (by have := Hn0.out; have := Hn1.out; omega)).mono ?_
  rintro e w12 ⟨rfl, ow12, hb12⟩
  have hs12 := hb12.size
  have o48 := o41.keep hb12 (.inl (by omega))
  have o49 := o42.keep hb12 (.inl (by omega))
  have o50 := o43.keep hb12 (.inl (by omega))
  have o51 := o45.keep hb12 (.inr (by omega))
  have o52 := o46.keep hb12 (.inr (by omega))
  have hw12 : Below w.heap.size w w12 := hw11.trans (hb12.below hw11.size (.inl (by omega)))
  clear o41 o42 o43 o45 o46 o44 hb12 hw11
  go_wp2_with fail
  refine (markInt64S_any _ _ _ x1 _ _ o51 (by omega) (by have := Hn1.out; have := Hn0.out; omega)).mono ?_
  rintro e w13 ⟨rfl, ow13, hb13⟩
  have hs13 := hb13.size
  have o53 := o48.keep hb13 (.inl (by omega))
  have o54 := o49.keep hb13 (.inl (by omega))
  have o55 := o50.keep hb13 (.inl (by omega))
  have o56 := ow12.keep hb13 (.inl (by omega))
  have o57 := o52.keep hb13 (.inr (by omega))
  have hw13 : Below w.heap.size w w13 := hw12.trans (hb13.below hw12.size (.inl (by omega)))
  clear o48 o49 o50 ow12 o52 o51 hb13 hw12
  go_wp2_with fail
  refine (eqInt64S_any _ _ _ _ _ _ _ (o57.is) (o55.is) (Nat.le_refl _) (Nat.le_refl _)).mono ?_
  rintro e w14 ⟨rfl, hb14⟩
  have hs14 := hb14.size
  have o58 := o53.later hb14
  have o59 := o54.later hb14
  have o60 := o55.later hb14
  have o61 := o57.later hb14
  have hw14 : Below w.heap.size w w14 := hw13.trans (hb14.mono hw13.size)
  clear o53 o54 o55 o57 hb14 hw13
  have HL := Lib.hid (show ((divP x0 x1).1).length ≤ 1000000000 from (divP_len x0 x1))
  go_wp2_with fail
  refine (markInt64S_any _ _ _ ((divP x0 x1).1) _ _ o61 (by omega) (by have := HL.out; omega)).mono ?_
  rintro e w15 ⟨rfl, ow15, hb15⟩
  have hs15 := hb15.size
  have o62 := o58.keep hb15 (.inl (by omega))
  have o63 := o59.keep hb15 (.inl (by omega))
  have o64 := o60.keep hb15 (.inl (by omega))
  have hw15 : Below w.heap.size w w15 := hw14.trans (hb15.below hw14.size (.inl (by omega)))
  clear o58 o59 o60 o61 hb15 hw14
  go_wp2_with fail
  refine (heldInt64S_any _ _ _ _ _ (ow15.is) (Nat.le_refl _) (by omega) (by have := HL.out; omega)).mono ?_
  rintro e w16 ⟨rfl, hb16⟩
  have hs16 := hb16.size
  have o65 := o62.later hb16
  have o66 := o63.later hb16
  have o67 := o64.later hb16
  have o68 := ow15.later hb16
  have hw16 : Below w.heap.size w w16 := hw15.trans (hb16.mono hw15.size)
  clear o62 o63 o64 ow15 hb16 hw15
  go_wp2_with fail
  refine (toInt64S_any _ _ x0 _ (is0.below hw16) hw16.size Z0.out).mono ?_
  rintro e w17 ⟨y17, rfl, ow17, hb17⟩
  have hs17 := hb17.size
  have o69 := o65.later hb17
  have o70 := o66.later hb17
  have o71 := o67.later hb17
  have o72 := o68.later hb17
  have hw17 : Below w.heap.size w w17 := hw16.trans (hb17.mono hw16.size)
  clear o65 o66 o67 o68 hb17 hw16
  go_wp2_with fail
  refine (toInt64S_any _ _ x1 _ (is1.below hw17) hw17.size Z1.out).mono ?_
  rintro e w18 ⟨y18, rfl, ow18, hb18⟩
  have hs18 := hb18.size
  have o73 := o69.later hb18
  have o74 := o70.later hb18
  have o75 := o71.later hb18
  have o76 := o72.later hb18
  have o77 := ow17.later hb18
  have hw18 : Below w.heap.size w w18 := hw17.trans (hb18.mono hw17.size)
  clear o69 o70 o71 o72 ow17 hb18 hw17
  go_wp2_with fail
  refine (DividePolynomials_any _ _ _ x0 x1 _ o77.is ow18.is (Nat.le_refl _)).mono ?_
  rintro e w19 ⟨g19, rfl, ow19, hb19⟩
  have hs19 := hb19.size
  have o78 := o73.later hb19
  have o79 := o74.later hb19
  have o80 := o75.later hb19
  have o81 := o76.later hb19
  have o82 := o77.later hb19
  have o83 := ow18.later hb19
  have hw19 : Below w.heap.size w w19 := hw18.trans (hb19.mono hw18.size)
  clear o73 o74 o75 o76 o77 ow18 hb19 hw18
  go_wp2_with fail
  refine (eqInt64S_any _ _ _ _ _ _ _ (ow19.is) (o80.is) (Nat.le_refl _) (Nat.le_refl _)).mono ?_
  rintro e w20 ⟨rfl, hb20⟩
  have hs20 := hb20.size
  have o84 := o78.later hb20
  have o85 := o79.later hb20
  have o86 := o80.later hb20
  have o87 := o81.later hb20
  have o88 := ow19.later hb20
  have hw20 : Below w.heap.size w w20 := hw19.trans (hb20.mono hw19.size)
  clear o78 o79 o80 o81 ow19 hb20 hw19
  go_wp2_with fail
  refine (heldInt64S_any _ _ _ _ _ (o87.is) (Nat.le_refl _) (by omega) (by have := HL.out; omega)).mono ?_
  rintro e w21 ⟨rfl, hb21⟩
  have hs21 := hb21.size
  have o89 := o84.later hb21
  have o90 := o85.later hb21
  have o91 := o86.later hb21
  have o92 := o87.later hb21
  have o93 := o88.later hb21
  have hw21 : Below w.heap.size w w21 := hw20.trans (hb21.mono hw20.size)
  clear o84 o85 o86 o87 o88 hb21 hw20
  go_wp2_with fail
  go_ret
  exact ⟨rfl, hw21⟩
end Go.Proofs.Ytcfdidomnblopaa.fnExactDividePolynomials
