/-
  The program's BranchOfSequence returns what the reference's returns, for all arguments.
  THE WALK THROUGH 'laws.FnExactBranchOfSequence', out of the contracts of what it calls.
-/
import Derived.Test.YtdmphhenocoinaaWlkE6
import Derived.Test.YtdmphhenocoinaaWlkL1
import Derived.Test.YtdmphhenocoinaaWlkL5
namespace Go.Proofs.Ytdmphhenocoinaa.fnExactBranchOfSequence
open Go.RowKit
set_option linter.unusedVariables false
open Pl K WA WL WC WE
set_option maxHeartbeats 1600000 in
theorem walk (w : World) (v0 : Value) (x0 : List Int) (is0 : Is w w.heap.size v0 x0) (wf0 : ∀ n ∈ x0, (Lit.int .i64 n).wf = true) (z0 : x0.length * 8 ≤ 140737488351232) :
    Calls Try.prog 10 #[v0] w fun e w' => e = .returned (.bool true) ∧ Below w.heap.size w w' := by
  obtain ⟨A0, n0, c0, rfl, hnc0, hcm0, hrd0⟩ := id is0
  have Hlen0 := Lib.hid hrd0.len
  have Z0 := Lib.hid z0
  unfold maxLen at hcm0
  clear wf0 z0 hrd0
  by_cases hbig0 : 1048576 < n0
  · go_enter Try.func10, Try.ntmps10
    go_wp2_with fail
    go_ret
    exact ⟨rfl, Below.refl _ _⟩
  have Hn0 := Lib.hid (show x0.length ≤ 1048576 by rw [Hlen0.out]; omega)
  have hw0 : Below w.heap.size w w := Below.refl _ _
  go_enter Try.func10, Try.ntmps10
  go_wp2_with fail
  refine (toInt64S_any _ _ x0 _ (is0.below hw0) hw0.size Z0.out).mono ?_
  rintro e w1 ⟨y1, rfl, ow1, hb1⟩
  have hs1 := hb1.size
  have hw1 : Below w.heap.size w w1 := hw0.trans (hb1.mono hw0.size)
  clear hb1 hw0
  go_wp2_with fail
  refine (sBranchOfSequence_any _ _ x0 _ ow1.is (Nat.le_refl _)).mono ?_
  rintro e w2 ⟨g2, rfl, ow2, hb2⟩
  have hs2 := hb2.size
  have o1 := ow1.later hb2
  have hw2 : Below w.heap.size w w2 := hw1.trans (hb2.mono hw1.size)
  clear ow1 hb2 hw1
  obtain ⟨A2y, c2y, rfl, _, _⟩ := ow2.shape
  go_wp2_with fail
  refine (toInt64S_any _ _ x0 _ (is0.below (hw2.alloc hw2.size _)) (by have := hw2.size; first | (simp; done) | (simp; omega)) Z0.out).mono ?_
  rintro e w3 ⟨y3, rfl, ow3, hb3⟩
  have hs3 : w2.heap.size + 1 ≤ w3.heap.size := by have := hb3.size; simp at this; omega
  have hc3 : Below w2.heap.size w2 w3 := ((Below.refl _ _).alloc (Nat.le_refl _) _).trans (hb3.mono (by simp))
  have c2 : w3.cell? ⟨w2.heap.size, 0, none⟩ = some ((.slice A2y ((bosB x0).1).length c2y)) := (hb3.cell (p := ⟨w2.heap.size, 0, none⟩) (by simp)).trans (by simp [go_sem])
  simp only [World.size_alloc] at ow3
  have o3 := o1.later hc3
  have o4 := ow2.later hc3
  have hw3 : Below w.heap.size w w3 := hw2.trans (hc3.mono hw2.size)
  clear o1 ow2 hb3 hc3 hw2
  go_wp2_with fail
  refine (BranchOfSequence_any _ _ x0 _ ow3.is (Nat.le_refl _)).mono ?_
  rintro e w4 ⟨g4, rfl, ow4, hb4⟩
  have hs4 := hb4.size
  have o5 := o3.later hb4
  have o6 := o4.later hb4
  have o7 := ow3.later hb4
  have c8 := (Chg.of_below hb4).cell c2 (.inr (Nat.zero_le _))
  have hw4 : Below w.heap.size w w4 := hw3.trans (hb4.mono hw3.size)
  clear o3 o4 ow3 c2 hb4 hw3
  obtain ⟨A4y, c4y, rfl, _, _⟩ := ow4.shape
  have c8o : ∀ o, (w4.alloc o).cell? ⟨w2.heap.size, 0, none⟩ = some ((.slice A2y ((bosB x0).1).length c2y)) := fun o => (World.cell?_alloc_lt w4 o ⟨w2.heap.size, 0, none⟩ (by show w2.heap.size < w4.heap.size; omega)).trans c8
  go_wp2_with fail
  refine (eqBranch_any _ _ _ _ _ _ _ ((ow4.alloc _).is) ((o6.alloc _).is) (Nat.le_refl _) (Nat.le_refl _)).mono ?_
  rintro e w5 ⟨rfl, hb5⟩
  have hs5 : w4.heap.size + 1 ≤ w5.heap.size := by have := hb5.size; simp at this; omega
  have hc5 : Below w4.heap.size w4 w5 := ((Below.refl _ _).alloc (Nat.le_refl _) _).trans (hb5.mono (by simp))
  have c9 : w5.cell? ⟨w4.heap.size, 0, none⟩ = some ((.slice A4y ((bosB x0).1).length c4y)) := (hb5.cell (p := ⟨w4.heap.size, 0, none⟩) (by simp)).trans (by simp [go_sem])
  have o10 := o5.later hc5
  have o11 := o6.later hc5
  have o12 := o7.later hc5
  have o13 := ow4.later hc5
  have c14 := (Chg.of_below hc5).cell c8 (.inr (Nat.zero_le _))
  have hw5 : Below w.heap.size w w5 := hw4.trans (hc5.mono hw4.size)
  clear o5 o6 o7 ow4 c8 c8o hb5 hc5 hw4
  go_wp2_with fail
  refine (toInt64S_any _ _ x0 _ (is0.below hw5) hw5.size Z0.out).mono ?_
  rintro e w6 ⟨y6, rfl, ow6, hb6⟩
  have hs6 := hb6.size
  have o15 := o10.later hb6
  have o16 := o11.later hb6
  have o17 := o12.later hb6
  have o18 := o13.later hb6
  have c19 := (Chg.of_below hb6).cell c14 (.inr (Nat.zero_le _))
  have c20 := (Chg.of_below hb6).cell c9 (.inr (Nat.zero_le _))
  have hw6 : Below w.heap.size w w6 := hw5.trans (hb6.mono hw5.size)
  clear o10 o11 o12 o13 c14 c9 hb6 hw5
  go_wp2_with fail
  refine (eqInt64S_any _ _ _ _ _ _ _ (o17.is) (ow6.is) (Nat.le_refl _) (Nat.le_refl _)).mono ?_
  rintro e w7 ⟨rfl, hb7⟩
  have hs7 := hb7.size
  have o21 := o15.later hb7
  have o22 := o16.later hb7
  have o23 := o17.later hb7
  have o24 := o18.later hb7
  have o25 := ow6.later hb7
  have c26 := (Chg.of_below hb7).cell c19 (.inr (Nat.zero_le _))
  have c27 := (Chg.of_below hb7).cell c20 (.inr (Nat.zero_le _))
  have hw7 : Below w.heap.size w w7 := hw6.trans (hb7.mono hw6.size)
  clear o15 o16 o17 o18 ow6 c19 c20 hb7 hw6
  go_wp2_with fail
  refine (markInt64S_any _ _ _ x0 _ _ o23 (by omega) (by have := Hn0.out; omega)).mono ?_
  rintro e w8 ⟨rfl, ow8, hb8⟩
  have hs8 := hb8.size
  have o28 := o21.keep hb8 (.inl (by omega))
  have o29 := o22.keep hb8 (.inl (by omega))
  have o30 := o24.keep hb8 (.inr (by omega))
  have c31 := hb8.cell c26 (.inl (by omega))
  have c32 := hb8.cell c27 (.inr (by omega))
  have hw8 : Below w.heap.size w w8 := hw7.trans (hb8.below hw7.size (.inl (by omega)))
  clear o21 o22 o24 c26 c27 o23 hb8 hw7
  go_wp2_with fail
  refine (eqBranch_any _ _ _ _ _ _ _ (o30.is) (o29.is) (Nat.le_refl _) (Nat.le_refl _)).mono ?_
  rintro e w9 ⟨rfl, hb9⟩
  have hs9 := hb9.size
  have o33 := o28.later hb9
  have o34 := o29.later hb9
  have o35 := o30.later hb9
  have c36 := (Chg.of_below hb9).cell c31 (.inr (Nat.zero_le _))
  have c37 := (Chg.of_below hb9).cell c32 (.inr (Nat.zero_le _))
  have hw9 : Below w.heap.size w w9 := hw8.trans (hb9.mono hw8.size)
  clear o28 o29 o30 c31 c32 hb9 hw8
  have HL := Lib.hid (show ((bosB x0).1).length ≤ 1000000000 from (bosB_len x0))
  go_wp2_with fail
  refine (markBranch_any _ _ _ ((bosB x0).1) _ _ o35 (by omega) (by omega) (by have := HL.out; omega)).mono ?_
  rintro e w10 ⟨rfl, ow10, hb10⟩
  have hs10 := hb10.size
  have o38 := o33.keep hb10 (.inl (by omega))
  have o39 := o34.keep hb10 (.inl (by omega))
  have c40 := hb10.cell c36 (.inl (by omega))
  have c41 := hb10.cell c37 (.inr (by omega))
  have hw10 : Below w.heap.size w w10 := hw9.trans (hb10.below hw9.size (.inl (by omega)))
  clear o33 o34 c36 c37 o35 hb10 hw9
  go_wp2_with fail
  refine (heldBranch_any _ _ _ _ _ (ow10.is) (Nat.le_refl _) (by omega) (by have := HL.out; omega)).mono ?_
  rintro e w11 ⟨rfl, hb11⟩
  have hs11 := hb11.size
  have o42 := o38.later hb11
  have o43 := o39.later hb11
  have o44 := ow10.later hb11
  have c45 := (Chg.of_below hb11).cell c40 (.inr (Nat.zero_le _))
  have c46 := (Chg.of_below hb11).cell c41 (.inr (Nat.zero_le _))
  have hw11 : Below w.heap.size w w11 := hw10.trans (hb11.mono hw10.size)
  clear o38 o39 ow10 c40 c41 hb11 hw10
  go_wp2_with fail
  refine (toInt64S_any _ _ x0 _ (is0.below hw11) hw11.size Z0.out).mono ?_
  rintro e w12 ⟨y12, rfl, ow12, hb12⟩
  have hs12 := hb12.size
  have o47 := o42.later hb12
  have o48 := o43.later hb12
  have o49 := o44.later hb12
  have c50 := (Chg.of_below hb12).cell c45 (.inr (Nat.zero_le _))
  have c51 := (Chg.of_below hb12).cell c46 (.inr (Nat.zero_le _))
  have hw12 : Below w.heap.size w w12 := hw11.trans (hb12.mono hw11.size)
  clear o42 o43 o44 c45 c46 hb12 hw11
  go_wp2_with fail
  refine (BranchOfSequence_any _ _ x0 _ ow12.is (Nat.le_refl _)).mono ?_
  rintro e w13 ⟨g13, rfl, ow13, hb13⟩
  have hs13 := hb13.size
  have o52 := o47.later hb13
  have o53 := o48.later hb13
  have o54 := o49.later hb13
  have o55 := ow12.later hb13
  have c56 := (Chg.of_below hb13).cell c50 (.inr (Nat.zero_le _))
  have c57 := (Chg.of_below hb13).cell c51 (.inr (Nat.zero_le _))
  have hw13 : Below w.heap.size w w13 := hw12.trans (hb13.mono hw12.size)
  clear o47 o48 o49 ow12 c50 c51 hb13 hw12
  obtain ⟨A13y, c13y, rfl, _, _⟩ := ow13.shape
  have c56o : ∀ o, (w13.alloc o).cell? ⟨w2.heap.size, 0, none⟩ = some ((.slice A2y ((bosB x0).1).length c2y)) := fun o => (World.cell?_alloc_lt w13 o ⟨w2.heap.size, 0, none⟩ (by show w2.heap.size < w13.heap.size; omega)).trans c56
  have c57o : ∀ o, (w13.alloc o).cell? ⟨w4.heap.size, 0, none⟩ = some ((.slice A4y ((bosB x0).1).length c4y)) := fun o => (World.cell?_alloc_lt w13 o ⟨w4.heap.size, 0, none⟩ (by show w4.heap.size < w13.heap.size; omega)).trans c57
  go_wp2_with fail
  refine (eqBranch_any _ _ _ _ _ _ _ ((ow13.alloc _).is) ((o53.alloc _).is) (Nat.le_refl _) (Nat.le_refl _)).mono ?_
  rintro e w14 ⟨rfl, hb14⟩
  have hs14 : w13.heap.size + 1 ≤ w14.heap.size := by have := hb14.size; simp at this; omega
  have hc14 : Below w13.heap.size w13 w14 := ((Below.refl _ _).alloc (Nat.le_refl _) _).trans (hb14.mono (by simp))
  have c58 : w14.cell? ⟨w13.heap.size, 0, none⟩ = some ((.slice A13y ((bosB x0).1).length c13y)) := (hb14.cell (p := ⟨w13.heap.size, 0, none⟩) (by simp)).trans (by simp [go_sem])
  have o59 := o52.later hc14
  have o60 := o53.later hc14
  have o61 := o54.later hc14
  have o62 := ow13.later hc14
  have c63 := (Chg.of_below hc14).cell c56 (.inr (Nat.zero_le _))
  have c64 := (Chg.of_below hc14).cell c57 (.inr (Nat.zero_le _))
  have hw14 : Below w.heap.size w w14 := hw13.trans (hc14.mono hw13.size)
  clear o52 o53 o54 ow13 c56 c56o c57 c57o hb14 hc14 hw13
  go_wp2_with fail
  refine (heldBranch_any _ _ _ _ _ (o61.is) (Nat.le_refl _) (by omega) (by have := HL.out; omega)).mono ?_
  rintro e w15 ⟨rfl, hb15⟩
  have hs15 := hb15.size
  have o65 := o59.later hb15
  have o66 := o60.later hb15
  have o67 := o61.later hb15
  have o68 := o62.later hb15
  have c69 := (Chg.of_below hb15).cell c63 (.inr (Nat.zero_le _))
  have c70 := (Chg.of_below hb15).cell c64 (.inr (Nat.zero_le _))
  have c71 := (Chg.of_below hb15).cell c58 (.inr (Nat.zero_le _))
  have hw15 : Below w.heap.size w w15 := hw14.trans (hb15.mono hw14.size)
  clear o59 o60 o61 o62 c63 c64 c58 hb15 hw14
  go_wp2_with fail
  go_ret
  exact ⟨rfl, hw15⟩
end Go.Proofs.Ytdmphhenocoinaa.fnExactBranchOfSequence
