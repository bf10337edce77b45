/-
  The program's BranchOfNewton returns what the reference's returns, for all arguments.
  THE WALK THROUGH 'laws.FnExactBranchOfNewton', out of the contracts of what it calls.
-/
import Derived.Test.YtpclplagkjimmaaWlkC18
import Derived.Test.YtpclplagkjimmaaWlkC19
import Derived.Test.YtpclplagkjimmaaWlkL1
import Derived.Test.YtpclplagkjimmaaWlkL5
import Derived.Test.YtpclplagkjimmaaWlkL7
namespace Go.Proofs.Ytpclplagkjimmaa.fnExactBranchOfNewton
open Go.RowKit
set_option linter.unusedVariables false
open Pl K WA WL WC
set_option maxHeartbeats 1600000 in
theorem walk (w : World) (v0 : Value) (x0 : List (List Int)) (is0 : IsR w w.heap.size v0 x0) (wf0 : ∀ xs ∈ x0, ∀ n ∈ xs, (Lit.int .i64 n).wf = true) (z0 : x0.length * 24 ≤ 140737488351232 ∧ ∀ xs ∈ x0, xs.length * 8 ≤ 140737488351232) :
    Calls Try.prog 13 #[v0] w fun e w' => e = .returned (.bool true) ∧ Below w.heap.size w w' := by
  have Z0 := Lib.hid z0
  obtain ⟨us0, hU0⟩ := id is0
  obtain ⟨A0, c0, rfl, _, _, _⟩ := hU0.sh
  clear wf0 z0 hU0
  have hw0 : Below w.heap.size w w := Below.refl _ _
  go_enter Try.func13, Try.ntmps13
  go_wp2_with fail
  refine (szInt64SS_b _ _ x0 1048576 _ is0 (by omega)).mono ?_
  rintro e w1 ⟨rfl, hb1⟩
  have hs1 := hb1.size
  have hw1 : Below w.heap.size w w1 := hw0.trans (hb1.mono hw0.size)
  clear hb1 hw0
  by_cases hbig : (1048576 : Int) < x0.length + tot x0 x0.length
  · rw [szT_big hbig]
    clear hbig
    go_wp2_with fail
    go_ret
    exact ⟨rfl, hw1⟩
  rw [szT_small hbig]
  have hleft : ¬ (1048576 - (x0.length : Int) - (tot x0 x0.length : Int) < 0) := by omega
  have Hn0 := Lib.hid (show tot x0 x0.length ≤ 1048576 by omega)
  clear hbig
  go_wp2_with fail
  refine (toInt64SS_any _ _ x0 _ (is0.below hw1) hw1.size Z0.out.1 Z0.out.2).mono ?_
  rintro e w2 ⟨y2, rfl, ow2, hb2⟩
  have hs2 := hb2.size
  have hw2 : Below w.heap.size w w2 := hw1.trans (hb2.mono hw1.size)
  clear hb2 hw1
  go_wp2_with fail
  refine (sBranchOfNewton_any _ _ x0 _ ow2.is (Nat.le_refl _)).mono ?_
  rintro e w3 ⟨g3, rfl, ow3, hb3⟩
  have hs3 := hb3.size
  have o1 := ow2.later hb3
  have hw3 : Below w.heap.size w w3 := hw2.trans (hb3.mono hw2.size)
  clear ow2 hb3 hw2
  obtain ⟨A3y, c3y, rfl, _, _⟩ := ow3.shape
  go_wp2_with fail
  refine (toInt64SS_any _ _ x0 _ (is0.below (hw3.alloc hw3.size _)) (by have := hw3.size; first | (simp; done) | (simp; omega)) Z0.out.1 Z0.out.2).mono ?_
  rintro e w4 ⟨y4, rfl, ow4, hb4⟩
  have hs4 : w3.heap.size + 1 ≤ w4.heap.size := by have := hb4.size; simp at this; omega
  have hc4 : Below w3.heap.size w3 w4 := ((Below.refl _ _).alloc (Nat.le_refl _) _).trans (hb4.mono (by simp))
  have c2 : w4.cell? ⟨w3.heap.size, 0, none⟩ = some ((.slice A3y ((bopB true x0).1).length c3y)) := (hb4.cell (p := ⟨w3.heap.size, 0, none⟩) (by simp)).trans (by simp [go_sem])
  simp only [World.size_alloc] at ow4
  have o3 := o1.later hc4
  have o4 := ow3.later hc4
  have hw4 : Below w.heap.size w w4 := hw3.trans (hc4.mono hw3.size)
  clear o1 ow3 hb4 hc4 hw3
  go_wp2_with fail
  refine (BranchOfNewton_any _ _ x0 _ ow4.is (Nat.le_refl _)).mono ?_
  rintro e w5 ⟨g5, rfl, ow5, hb5⟩
  have hs5 := hb5.size
  have o5 := o3.later hb5
  have o6 := o4.later hb5
  have o7 := ow4.later hb5
  have c8 := (Chg.of_below hb5).cell c2 (.inr (Nat.zero_le _))
  have hw5 : Below w.heap.size w w5 := hw4.trans (hb5.mono hw4.size)
  clear o3 o4 ow4 c2 hb5 hw4
  obtain ⟨A5y, c5y, rfl, _, _⟩ := ow5.shape
  have c8o : ∀ o, (w5.alloc o).cell? ⟨w3.heap.size, 0, none⟩ = some ((.slice A3y ((bopB true x0).1).length c3y)) := fun o => (World.cell?_alloc_lt w5 o ⟨w3.heap.size, 0, none⟩ (by show w3.heap.size < w5.heap.size; omega)).trans c8
  go_wp2_with fail
  refine (eqBranch_any _ _ _ _ _ _ _ ((ow5.alloc _).is) ((o6.alloc _).is) (Nat.le_refl _) (Nat.le_refl _)).mono ?_
  rintro e w6 ⟨rfl, hb6⟩
  have hs6 : w5.heap.size + 1 ≤ w6.heap.size := by have := hb6.size; simp at this; omega
  have hc6 : Below w5.heap.size w5 w6 := ((Below.refl _ _).alloc (Nat.le_refl _) _).trans (hb6.mono (by simp))
  have c9 : w6.cell? ⟨w5.heap.size, 0, none⟩ = some ((.slice A5y ((bopB true x0).1).length c5y)) := (hb6.cell (p := ⟨w5.heap.size, 0, none⟩) (by simp)).trans (by simp [go_sem])
  have o10 := o5.later hc6
  have o11 := o6.later hc6
  have o12 := o7.later hc6
  have o13 := ow5.later hc6
  have c14 := (Chg.of_below hc6).cell c8 (.inr (Nat.zero_le _))
  have hw6 : Below w.heap.size w w6 := hw5.trans (hc6.mono hw5.size)
  clear o5 o6 o7 ow5 c8 c8o hb6 hc6 hw5
  go_wp2_with fail
  refine (toInt64SS_any _ _ x0 _ (is0.below hw6) hw6.size Z0.out.1 Z0.out.2).mono ?_
  rintro e w7 ⟨y7, rfl, ow7, hb7⟩
  have hs7 := hb7.size
  have o15 := o10.later hb7
  have o16 := o11.later hb7
  have o17 := o12.later hb7
  have o18 := o13.later hb7
  have c19 := (Chg.of_below hb7).cell c14 (.inr (Nat.zero_le _))
  have c20 := (Chg.of_below hb7).cell c9 (.inr (Nat.zero_le _))
  have hw7 : Below w.heap.size w w7 := hw6.trans (hb7.mono hw6.size)
  clear o10 o11 o12 o13 c14 c9 hb7 hw6
  go_wp2_with fail
  refine (eqInt64SS_any _ _ _ _ x0 x0 _ (o17.is) (ow7.is) (Nat.le_refl _) (Nat.le_refl _)).mono ?_
  rintro e w8 ⟨rfl, hb8⟩
  have hs8 := hb8.size
  have o21 := o15.later hb8
  have o22 := o16.later hb8
  have o23 := o17.later hb8
  have o24 := o18.later hb8
  have o25 := ow7.later hb8
  have c26 := (Chg.of_below hb8).cell c19 (.inr (Nat.zero_le _))
  have c27 := (Chg.of_below hb8).cell c20 (.inr (Nat.zero_le _))
  have hw8 : Below w.heap.size w w8 := hw7.trans (hb8.mono hw7.size)
  clear o15 o16 o17 o18 ow7 c19 c20 hb8 hw7
  go_wp2_with fail
  refine (markInt64SS_any _ _ _ x0 _ _ o23 (by omega) (by have := Hn0.out; omega)).mono ?_
  rintro e w9 ⟨rfl, ow9, hb9⟩
  have hs9 := hb9.size
  have o28 := o21.keep hb9 (.inl (by omega))
  have o29 := o22.keep hb9 (.inl (by omega))
  have o30 := o24.keep hb9 (.inr (by omega))
  have c31 := hb9.cell c26 (.inl (by omega))
  have c32 := hb9.cell c27 (.inr (by omega))
  have hw9 : Below w.heap.size w w9 := hw8.trans (hb9.below hw8.size (.inl (by omega)))
  clear o21 o22 o24 c26 c27 o23 hb9 hw8
  go_wp2_with fail
  refine (eqBranch_any _ _ _ _ _ _ _ (o30.is) (o29.is) (Nat.le_refl _) (Nat.le_refl _)).mono ?_
  rintro e w10 ⟨rfl, hb10⟩
  have hs10 := hb10.size
  have o33 := o28.later hb10
  have o34 := o29.later hb10
  have o35 := o30.later hb10
  have c36 := (Chg.of_below hb10).cell c31 (.inr (Nat.zero_le _))
  have c37 := (Chg.of_below hb10).cell c32 (.inr (Nat.zero_le _))
  have hw10 : Below w.heap.size w w10 := hw9.trans (hb10.mono hw9.size)
  clear o28 o29 o30 c31 c32 hb10 hw9
  have HL := Lib.hid (show ((bopB true x0).1).length ≤ 1000000000 from (bopB_len true x0))
  go_wp2_with fail
  refine (markBranch_any _ _ _ ((bopB true x0).1) _ _ o35 (by omega) (by omega) (by have := HL.out; omega)).mono ?_
  rintro e w11 ⟨rfl, ow11, hb11⟩
  have hs11 := hb11.size
  have o38 := o33.keep hb11 (.inl (by omega))
  have o39 := o34.keep hb11 (.inl (by omega))
  have c40 := hb11.cell c36 (.inl (by omega))
  have c41 := hb11.cell c37 (.inr (by omega))
  have hw11 : Below w.heap.size w w11 := hw10.trans (hb11.below hw10.size (.inl (by omega)))
  clear o33 o34 c36 c37 o35 hb11 hw10
  go_wp2_with fail
  refine (heldBranch_any _ _ _ _ _ (ow11.is) (Nat.le_refl _) (by omega) (by have := HL.out; omega)).mono ?_
  rintro e w12 ⟨rfl, hb12⟩
  have hs12 := hb12.size
  have o42 := o38.later hb12
  have o43 := o39.later hb12
  have o44 := ow11.later hb12
  have c45 := (Chg.of_below hb12).cell c40 (.inr (Nat.zero_le _))
  have c46 := (Chg.of_below hb12).cell c41 (.inr (Nat.zero_le _))
  have hw12 : Below w.heap.size w w12 := hw11.trans (hb12.mono hw11.size)
  clear o38 o39 ow11 c40 c41 hb12 hw11
  go_wp2_with fail
  refine (toInt64SS_any _ _ x0 _ (is0.below hw12) hw12.size Z0.out.1 Z0.out.2).mono ?_
  rintro e w13 ⟨y13, rfl, ow13, hb13⟩
  have hs13 := hb13.size
  have o47 := o42.later hb13
  have o48 := o43.later hb13
  have o49 := o44.later hb13
  have c50 := (Chg.of_below hb13).cell c45 (.inr (Nat.zero_le _))
  have c51 := (Chg.of_below hb13).cell c46 (.inr (Nat.zero_le _))
  have hw13 : Below w.heap.size w w13 := hw12.trans (hb13.mono hw12.size)
  clear o42 o43 o44 c45 c46 hb13 hw12
  go_wp2_with fail
  refine (BranchOfNewton_any _ _ x0 _ ow13.is (Nat.le_refl _)).mono ?_
  rintro e w14 ⟨g14, rfl, ow14, hb14⟩
  have hs14 := hb14.size
  have o52 := o47.later hb14
  have o53 := o48.later hb14
  have o54 := o49.later hb14
  have o55 := ow13.later hb14
  have c56 := (Chg.of_below hb14).cell c50 (.inr (Nat.zero_le _))
  have c57 := (Chg.of_below hb14).cell c51 (.inr (Nat.zero_le _))
  have hw14 : Below w.heap.size w w14 := hw13.trans (hb14.mono hw13.size)
  clear o47 o48 o49 ow13 c50 c51 hb14 hw13
  obtain ⟨A14y, c14y, rfl, _, _⟩ := ow14.shape
  have c56o : ∀ o, (w14.alloc o).cell? ⟨w3.heap.size, 0, none⟩ = some ((.slice A3y ((bopB true x0).1).length c3y)) := fun o => (World.cell?_alloc_lt w14 o ⟨w3.heap.size, 0, none⟩ (by show w3.heap.size < w14.heap.size; omega)).trans c56
  have c57o : ∀ o, (w14.alloc o).cell? ⟨w5.heap.size, 0, none⟩ = some ((.slice A5y ((bopB true x0).1).length c5y)) := fun o => (World.cell?_alloc_lt w14 o ⟨w5.heap.size, 0, none⟩ (by show w5.heap.size < w14.heap.size; omega)).trans c57
  go_wp2_with fail
  refine (eqBranch_any _ _ _ _ _ _ _ ((ow14.alloc _).is) ((o53.alloc _).is) (Nat.le_refl _) (Nat.le_refl _)).mono ?_
  rintro e w15 ⟨rfl, hb15⟩
  have hs15 : w14.heap.size + 1 ≤ w15.heap.size := by have := hb15.size; simp at this; omega
  have hc15 : Below w14.heap.size w14 w15 := ((Below.refl _ _).alloc (Nat.le_refl _) _).trans (hb15.mono (by simp))
  have c58 : w15.cell? ⟨w14.heap.size, 0, none⟩ = some ((.slice A14y ((bopB true x0).1).length c14y)) := (hb15.cell (p := ⟨w14.heap.size, 0, none⟩) (by simp)).trans (by simp [go_sem])
  have o59 := o52.later hc15
  have o60 := o53.later hc15
  have o61 := o54.later hc15
  have o62 := ow14.later hc15
  have c63 := (Chg.of_below hc15).cell c56 (.inr (Nat.zero_le _))
  have c64 := (Chg.of_below hc15).cell c57 (.inr (Nat.zero_le _))
  have hw15 : Below w.heap.size w w15 := hw14.trans (hc15.mono hw14.size)
  clear o52 o53 o54 ow14 c56 c56o c57 c57o hb15 hc15 hw14
  go_wp2_with fail
  refine (heldBranch_any _ _ _ _ _ (o61.is) (Nat.le_refl _) (by omega) (by have := HL.out; omega)).mono ?_
  rintro e w16 ⟨rfl, hb16⟩
  have hs16 := hb16.size
  have o65 := o59.later hb16
  have o66 := o60.later hb16
  have o67 := o61.later hb16
  have o68 := o62.later hb16
  have c69 := (Chg.of_below hb16).cell c63 (.inr (Nat.zero_le _))
  have c70 := (Chg.of_below hb16).cell c64 (.inr (Nat.zero_le _))
  have c71 := (Chg.of_below hb16).cell c58 (.inr (Nat.zero_le _))
  have hw16 : Below w.heap.size w w16 := hw15.trans (hb16.mono hw15.size)
  clear o59 o60 o61 o62 c63 c64 c58 hb16 hw15
  go_wp2_with fail
  go_ret
  exact ⟨rfl, hw16⟩
end Go.Proofs.Ytpclplagkjimmaa.fnExactBranchOfNewton
