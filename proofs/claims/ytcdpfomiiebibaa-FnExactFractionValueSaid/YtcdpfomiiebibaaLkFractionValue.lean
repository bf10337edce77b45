/-
  The program's FractionValue returns what the reference's returns, for all arguments.
  THE WALK THROUGH 'laws.FnExactFractionValue', out of the contracts of what it calls.
-/
import Derived.Test.YtcdpfomiiebibaaWlkA3
import Derived.Test.YtcdpfomiiebibaaWlkL1
import Derived.Test.YtcdpfomiiebibaaWlkL2
namespace Go.Proofs.Ytcdpfomiiebibaa.fnExactFractionValue
open Go.RowKit
set_option linter.unusedVariables false
open Pl K WA WL
set_option maxHeartbeats 1600000 in
theorem walk (w : World) (v0 : Value) (x0 : List Int) (is0 : Is w w.heap.size v0 x0) (wf0 : ∀ n ∈ x0, (Lit.int .i64 n).wf = true) (z0 : x0.length * 8 ≤ 140737488351232) :
    Calls Try.prog 6 #[v0] w fun e w' => e = .returned (.bool true) ∧ Below w.heap.size w w' := by
  obtain ⟨A0, n0, c0, rfl, hnc0, hcm0, hrd0⟩ := id is0
  have Hlen0 := Lib.hid hrd0.len
  have Z0 := Lib.hid z0
  unfold maxLen at hcm0
  clear wf0 z0 hrd0
  by_cases hbig0 : 1048576 < n0
  · go_enter Try.func6, Try.ntmps6
    go_wp2_with fail
    go_ret
    exact ⟨rfl, Below.refl _ _⟩
  have Hn0 := Lib.hid (show x0.length ≤ 1048576 by rw [Hlen0.out]; omega)
  have hw0 : Below w.heap.size w w := Below.refl _ _
  go_enter Try.func6, Try.ntmps6
  go_wp2_with fail
  refine (toInt64S_any _ _ x0 _ (is0.below hw0) hw0.size Z0.out).mono ?_
  rintro e w1 ⟨y1, rfl, ow1, hb1⟩
  have hs1 := hb1.size
  have hw1 : Below w.heap.size w w1 := hw0.trans (hb1.mono hw0.size)
  clear hb1 hw0
  go_wp2_with fail
  refine (sFractionValue_any _ _ x0 _ ow1.is (Nat.le_refl _)).mono ?_
  rintro e w2 ⟨rfl, hb2⟩
  have hs2 := hb2.size
  have o1 := ow1.later hb2
  have hw2 : Below w.heap.size w w2 := hw1.trans (hb2.mono hw1.size)
  clear ow1 hb2 hw1
  go_wp2_with fail
  refine (toInt64S_any _ _ x0 _ (is0.below (hw2.alloc hw2.size _)) (by have := hw2.size; simp; omega) Z0.out).mono ?_
  rintro e w3 ⟨y3, rfl, ow3, hb3⟩
  have hs3 : w2.heap.size + 1 ≤ w3.heap.size := by have := hb3.size; simp at this; omega
  have hc3 : Below w2.heap.size w2 w3 := ((Below.refl _ _).alloc (Nat.le_refl _) _).trans (hb3.mono (by simp))
  have c2 : w3.cell? ⟨w2.heap.size, 0, none⟩ = some (.int .i64 (fv x0).1) := (hb3.cell (p := ⟨w2.heap.size, 0, none⟩) (by simp)).trans (by simp [go_sem])
  have c3 : w3.cell? ⟨w2.heap.size, 1, none⟩ = some (.int .i64 (fv x0).2.1) := (hb3.cell (p := ⟨w2.heap.size, 1, none⟩) (by simp)).trans (by simp [go_sem])
  simp only [World.size_alloc] at ow3
  have o4 := o1.later hc3
  have hw3 : Below w.heap.size w w3 := hw2.trans (hc3.mono hw2.size)
  clear o1 hb3 hc3 hw2
  go_wp2_with fail
  refine (FractionValue_any _ _ x0 _ ow3.is (Nat.le_refl _)).mono ?_
  rintro e w4 ⟨rfl, hb4⟩
  have hs4 := hb4.size
  have o5 := o4.later hb4
  have o6 := ow3.later hb4
  have c7 := (Chg.of_below hb4).cell c2 (.inr (Nat.zero_le _))
  have c8 := (Chg.of_below hb4).cell c3 (.inr (Nat.zero_le _))
  have hw4 : Below w.heap.size w w4 := hw3.trans (hb4.mono hw3.size)
  clear o4 ow3 c2 c3 hb4 hw3
  have c7o : ∀ o, (w4.alloc o).cell? ⟨w2.heap.size, 0, none⟩ = some (.int .i64 (fv x0).1) := fun o => (World.cell?_alloc_lt w4 o ⟨w2.heap.size, 0, none⟩ (by show w2.heap.size < w4.heap.size; omega)).trans c7
  have c8o : ∀ o, (w4.alloc o).cell? ⟨w2.heap.size, 1, none⟩ = some (.int .i64 (fv x0).2.1) := fun o => (World.cell?_alloc_lt w4 o ⟨w2.heap.size, 1, none⟩ (by show w2.heap.size < w4.heap.size; omega)).trans c8
  go_wp2_with fail
  refine (eqFraction_any _ _ _ _ _).mono ?_
  rintro e w5 ⟨rfl, hb5⟩
  have hs5 : w4.heap.size + 1 ≤ w5.heap.size := by have := hb5.size; simp at this; omega
  have hc5 : Below w4.heap.size w4 w5 := ((Below.refl _ _).alloc (Nat.le_refl _) _).trans (hb5.mono (by simp))
  have c9 : w5.cell? ⟨w4.heap.size, 0, none⟩ = some (.int .i64 (fv x0).1) := (hb5.cell (p := ⟨w4.heap.size, 0, none⟩) (by simp)).trans (by simp [go_sem])
  have c10 : w5.cell? ⟨w4.heap.size, 1, none⟩ = some (.int .i64 (fv x0).2.1) := (hb5.cell (p := ⟨w4.heap.size, 1, none⟩) (by simp)).trans (by simp [go_sem])
  have o11 := o5.later hc5
  have o12 := o6.later hc5
  have c13 := (Chg.of_below hc5).cell c7 (.inr (Nat.zero_le _))
  have c14 := (Chg.of_below hc5).cell c8 (.inr (Nat.zero_le _))
  have hw5 : Below w.heap.size w w5 := hw4.trans (hc5.mono hw4.size)
  clear o5 o6 c7 c7o c8 c8o hb5 hc5 hw4
  go_wp2_with fail
  refine (toInt64S_any _ _ x0 _ (is0.below hw5) hw5.size Z0.out).mono ?_
  rintro e w6 ⟨y6, rfl, ow6, hb6⟩
  have hs6 := hb6.size
  have o15 := o11.later hb6
  have o16 := o12.later hb6
  have c17 := (Chg.of_below hb6).cell c13 (.inr (Nat.zero_le _))
  have c18 := (Chg.of_below hb6).cell c14 (.inr (Nat.zero_le _))
  have c19 := (Chg.of_below hb6).cell c9 (.inr (Nat.zero_le _))
  have c20 := (Chg.of_below hb6).cell c10 (.inr (Nat.zero_le _))
  have hw6 : Below w.heap.size w w6 := hw5.trans (hb6.mono hw5.size)
  clear o11 o12 c13 c14 c9 c10 hb6 hw5
  go_wp2_with fail
  refine (eqInt64S_any _ _ _ _ _ _ _ (o16.is) (ow6.is) (Nat.le_refl _) (Nat.le_refl _)).mono ?_
  rintro e w7 ⟨rfl, hb7⟩
  have hs7 := hb7.size
  have o21 := o15.later hb7
  have o22 := o16.later hb7
  have o23 := ow6.later hb7
  have c24 := (Chg.of_below hb7).cell c17 (.inr (Nat.zero_le _))
  have c25 := (Chg.of_below hb7).cell c18 (.inr (Nat.zero_le _))
  have c26 := (Chg.of_below hb7).cell c19 (.inr (Nat.zero_le _))
  have c27 := (Chg.of_below hb7).cell c20 (.inr (Nat.zero_le _))
  have hw7 : Below w.heap.size w w7 := hw6.trans (hb7.mono hw6.size)
  clear o15 o16 ow6 c17 c18 c19 c20 hb7 hw6
  go_wp2_with fail
  go_ret
  exact ⟨rfl, hw7⟩
end Go.Proofs.Ytcdpfomiiebibaa.fnExactFractionValue
