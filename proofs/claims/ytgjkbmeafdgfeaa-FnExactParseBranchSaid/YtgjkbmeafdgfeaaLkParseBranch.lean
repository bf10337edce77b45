/-
  The program's ParseBranch returns what the reference's returns, for all arguments.
  THE WALK THROUGH 'laws.FnExactParseBranch', out of the contracts of what it calls.
-/
import Derived.Test.YtgjkbmeafdgfeaaWlkW6
import Derived.Test.YtgjkbmeafdgfeaaWlkL1
import Derived.Test.YtgjkbmeafdgfeaaWlkL5
namespace Go.Proofs.Ytgjkbmeafdgfeaa.fnExactParseBranch
open Go.RowKit
set_option linter.unusedVariables false
open Pl K WA WL WC WW
set_option maxHeartbeats 1600000 in
theorem walk (w : World) (s0 : ByteArray) (ws0 : s0.size ≤ maxLen) :
    Calls Try.prog 3 #[.string s0] w fun e w' => e = .returned (.bool true) ∧ Below w.heap.size w w' := by
  unfold maxLen at ws0
  by_cases hbig0 : 1048576 < s0.size
  · go_enter Try.func3, Try.ntmps3
    go_wp2_with fail
    go_ret
    exact ⟨rfl, Below.refl _ _⟩
  have hw0 : Below w.heap.size w w := Below.refl _ _
  go_enter Try.func3, Try.ntmps3
  go_wp2_with fail
  refine (sParseBranch_b s0 _ (by omega)).mono ?_
  rintro e w1 ⟨g1, rfl, ow1, hb1⟩
  have hs1 := hb1.size
  have hw1 : Below w.heap.size w w1 := hw0.trans (hb1.mono hw0.size)
  clear hb1 hw0
  obtain ⟨A1y, c1y, rfl, _, _⟩ := ow1.shape
  go_wp2_with fail
  refine (ParseBranch_any s0 _ (by omega)).mono ?_
  rintro e w2 ⟨g2, rfl, ow2, hb2⟩
  have hs2 : w1.heap.size + 1 ≤ w2.heap.size := by have := hb2.size; simp at this; omega
  have hc2 : Below w1.heap.size w1 w2 := ((Below.refl _ _).alloc (Nat.le_refl _) _).trans (hb2.mono (by simp))
  have c1 : w2.cell? ⟨w1.heap.size, 0, none⟩ = some ((.slice A1y ((pbB (L s0)).1).length c1y)) := (hb2.cell (p := ⟨w1.heap.size, 0, none⟩) (by simp)).trans (by simp [go_sem])
  simp only [World.size_alloc] at ow2
  have o2 := ow1.later hc2
  have hw2 : Below w.heap.size w w2 := hw1.trans (hc2.mono hw1.size)
  clear ow1 hb2 hc2 hw1
  obtain ⟨A2y, c2y, rfl, _, _⟩ := ow2.shape
  have c1o : ∀ o, (w2.alloc o).cell? ⟨w1.heap.size, 0, none⟩ = some ((.slice A1y ((pbB (L s0)).1).length c1y)) := fun o => (World.cell?_alloc_lt w2 o ⟨w1.heap.size, 0, none⟩ (by show w1.heap.size < w2.heap.size; omega)).trans c1
  go_wp2_with fail
  refine (eqBranch_any _ _ _ _ _ _ _ ((ow2.alloc _).is) ((o2.alloc _).is) (Nat.le_refl _) (Nat.le_refl _)).mono ?_
  rintro e w3 ⟨rfl, hb3⟩
  have hs3 : w2.heap.size + 1 ≤ w3.heap.size := by have := hb3.size; simp at this; omega
  have hc3 : Below w2.heap.size w2 w3 := ((Below.refl _ _).alloc (Nat.le_refl _) _).trans (hb3.mono (by simp))
  have c3 : w3.cell? ⟨w2.heap.size, 0, none⟩ = some ((.slice A2y ((pbB (L s0)).1).length c2y)) := (hb3.cell (p := ⟨w2.heap.size, 0, none⟩) (by simp)).trans (by simp [go_sem])
  have o4 := o2.later hc3
  have o5 := ow2.later hc3
  have c6 := (Chg.of_below hc3).cell c1 (.inr (Nat.zero_le _))
  have hw3 : Below w.heap.size w w3 := hw2.trans (hc3.mono hw2.size)
  clear o2 ow2 c1 c1o hb3 hc3 hw2
  have HL := Lib.hid (show ((pbB (L s0)).1).length ≤ 1000000000 from (by have := pbB_len (L s0); omega))
  go_wp2_with fail
  refine (markBranch_any _ _ _ ((pbB (L s0)).1) _ _ o5 (by omega) (by omega) (by have := HL.out; omega)).mono ?_
  rintro e w4 ⟨rfl, ow4, hb4⟩
  have hs4 := hb4.size
  have o7 := o4.keep hb4 (.inl (by omega))
  have c8 := hb4.cell c6 (.inl (by omega))
  have c9 := hb4.cell c3 (.inr (by omega))
  have hw4 : Below w.heap.size w w4 := hw3.trans (hb4.below hw3.size (.inl (by omega)))
  clear o4 c6 c3 o5 hb4 hw3
  go_wp2_with fail
  refine (heldBranch_any _ _ _ _ _ (ow4.is) (Nat.le_refl _) (by omega) (by have := HL.out; omega)).mono ?_
  rintro e w5 ⟨rfl, hb5⟩
  have hs5 := hb5.size
  have o10 := o7.later hb5
  have o11 := ow4.later hb5
  have c12 := (Chg.of_below hb5).cell c8 (.inr (Nat.zero_le _))
  have c13 := (Chg.of_below hb5).cell c9 (.inr (Nat.zero_le _))
  have hw5 : Below w.heap.size w w5 := hw4.trans (hb5.mono hw4.size)
  clear o7 ow4 c8 c9 hb5 hw4
  go_wp2_with fail
  refine (ParseBranch_any s0 _ (by omega)).mono ?_
  rintro e w6 ⟨g6, rfl, ow6, hb6⟩
  have hs6 := hb6.size
  have o14 := o10.later hb6
  have o15 := o11.later hb6
  have c16 := (Chg.of_below hb6).cell c12 (.inr (Nat.zero_le _))
  have c17 := (Chg.of_below hb6).cell c13 (.inr (Nat.zero_le _))
  have hw6 : Below w.heap.size w w6 := hw5.trans (hb6.mono hw5.size)
  clear o10 o11 c12 c13 hb6 hw5
  obtain ⟨A6y, c6y, rfl, _, _⟩ := ow6.shape
  have c16o : ∀ o, (w6.alloc o).cell? ⟨w1.heap.size, 0, none⟩ = some ((.slice A1y ((pbB (L s0)).1).length c1y)) := fun o => (World.cell?_alloc_lt w6 o ⟨w1.heap.size, 0, none⟩ (by show w1.heap.size < w6.heap.size; omega)).trans c16
  have c17o : ∀ o, (w6.alloc o).cell? ⟨w2.heap.size, 0, none⟩ = some ((.slice A2y ((pbB (L s0)).1).length c2y)) := fun o => (World.cell?_alloc_lt w6 o ⟨w2.heap.size, 0, none⟩ (by show w2.heap.size < w6.heap.size; omega)).trans c17
  go_wp2_with fail
  refine (eqBranch_any _ _ _ _ _ _ _ ((ow6.alloc _).is) ((o14.alloc _).is) (Nat.le_refl _) (Nat.le_refl _)).mono ?_
  rintro e w7 ⟨rfl, hb7⟩
  have hs7 : w6.heap.size + 1 ≤ w7.heap.size := by have := hb7.size; simp at this; omega
  have hc7 : Below w6.heap.size w6 w7 := ((Below.refl _ _).alloc (Nat.le_refl _) _).trans (hb7.mono (by simp))
  have c18 : w7.cell? ⟨w6.heap.size, 0, none⟩ = some ((.slice A6y ((pbB (L s0)).1).length c6y)) := (hb7.cell (p := ⟨w6.heap.size, 0, none⟩) (by simp)).trans (by simp [go_sem])
  have o19 := o14.later hc7
  have o20 := o15.later hc7
  have o21 := ow6.later hc7
  have c22 := (Chg.of_below hc7).cell c16 (.inr (Nat.zero_le _))
  have c23 := (Chg.of_below hc7).cell c17 (.inr (Nat.zero_le _))
  have hw7 : Below w.heap.size w w7 := hw6.trans (hc7.mono hw6.size)
  clear o14 o15 ow6 c16 c16o c17 c17o hb7 hc7 hw6
  go_wp2_with fail
  refine (heldBranch_any _ _ _ _ _ (o20.is) (Nat.le_refl _) (by omega) (by have := HL.out; omega)).mono ?_
  rintro e w8 ⟨rfl, hb8⟩
  have hs8 := hb8.size
  have o24 := o19.later hb8
  have o25 := o20.later hb8
  have o26 := o21.later hb8
  have c27 := (Chg.of_below hb8).cell c22 (.inr (Nat.zero_le _))
  have c28 := (Chg.of_below hb8).cell c23 (.inr (Nat.zero_le _))
  have c29 := (Chg.of_below hb8).cell c18 (.inr (Nat.zero_le _))
  have hw8 : Below w.heap.size w w8 := hw7.trans (hb8.mono hw7.size)
  clear o19 o20 o21 c22 c23 c18 hb8 hw7
  go_wp2_with fail
  go_ret
  exact ⟨rfl, hw8⟩
end Go.Proofs.Ytgjkbmeafdgfeaa.fnExactParseBranch
