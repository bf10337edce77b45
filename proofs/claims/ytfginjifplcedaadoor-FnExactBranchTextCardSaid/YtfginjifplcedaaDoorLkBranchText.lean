/-
  The program's BranchText returns what the reference's returns, for all arguments.
  THE WALK THROUGH 'laws.FnExactBranchText', out of the contracts of what it calls.
-/
import Derived.Test.YtfginjifplcedaaDoorWlkX4
import Derived.Test.YtfginjifplcedaaDoorWlkL1
import Derived.Test.YtfginjifplcedaaDoorWlkL5
import Derived.Deep.RegionHeld3
namespace Go.Proofs.YtfginjifplcedaaDoor.fnExactBranchText
open Go.RowKit
set_option linter.unusedVariables false
open Pl K WA WL WC WW WX
set_option maxHeartbeats 1600000 in
theorem walk (w : World) (v0 : Value) (x0 : List Int) (is0 : Is w w.heap.size v0 x0) (wf0 : ∀ n ∈ x0, (Lit.int .i64 n).wf = true) (z0 : x0.length * 8 ≤ 140737488351232) (ht : Tab w) :
    Calls Tryd.prog 3 #[.agg #[v0]] w fun e w' => e = .returned (.bool true) ∧ Below w.heap.size w w' := by
  have Z0 := Lib.hid z0
  clear wf0 z0
  have hw0 : Below w.heap.size w w := Below.refl _ _
  go_enter Tryd.func3, Tryd.ntmps3
  go_wp2_with fail
  refine (szBranch_any _ _ x0 1048576 _ (is0.below (hw0.alloc hw0.size _)) (by have := hw0.size; first | (simp; done) | (simp; omega)) (by omega)).mono ?_
  rintro e w1 ⟨rfl, hb1⟩
  have hs1 : w.heap.size + 1 ≤ w1.heap.size := by have := hb1.size; simp at this; omega
  have hc1 : Below w.heap.size w w1 := ((Below.refl _ _).alloc (Nat.le_refl _) _).trans (hb1.mono (by simp))
  have c1 : w1.cell? ⟨w.heap.size, 0, none⟩ = some (v0) := (hb1.cell (p := ⟨w.heap.size, 0, none⟩) (by simp)).trans (by simp [go_sem])
  have hw1 : Below w.heap.size w w1 := hw0.trans (hc1.mono hw0.size)
  clear hb1 hc1 hw0
  by_cases hbig : (1048576 : Int) < x0.length
  · rw [szl_big hbig]
    clear hbig
    go_wp2_with fail
    go_ret
    exact ⟨rfl, hw1⟩
  rw [szl_small hbig]
  have hleft : ¬ (1048576 - (x0.length : Int) < 0) := by omega
  have Hn0 := Lib.hid (show x0.length ≤ 1048576 by omega)
  clear hbig
  go_wp2_with fail
  refine (toBranch_any _ _ x0 _ (is0.below hw1) hw1.size Z0.out).mono ?_
  rintro e w2 ⟨y2, rfl, ow2, hb2⟩
  have hs2 := hb2.size
  have c2 := (Chg.of_below hb2).cell c1 (.inr (Nat.zero_le _))
  have hw2 : Below w.heap.size w w2 := hw1.trans (hb2.mono hw1.size)
  clear c1 hb2 hw1
  obtain ⟨A2y, c2y, rfl, _, _⟩ := ow2.shape
  go_wp2_with fail
  refine (sBranchText_any _ _ x0 _ ow2.is (Nat.le_refl _)).mono ?_
  rintro e w3 ⟨rfl, hb3⟩
  have hs3 := hb3.size
  have o3 := ow2.later hb3
  have c4 := (Chg.of_below hb3).cell c2 (.inr (Nat.zero_le _))
  have hw3 : Below w.heap.size w w3 := hw2.trans (hb3.mono hw2.size)
  clear ow2 c2 hb3 hw2
  go_wp2_with fail
  refine (toBranch_any _ _ x0 _ (is0.below hw3) hw3.size Z0.out).mono ?_
  rintro e w4 ⟨y4, rfl, ow4, hb4⟩
  have hs4 := hb4.size
  have o5 := o3.later hb4
  have c6 := (Chg.of_below hb4).cell c4 (.inr (Nat.zero_le _))
  have hw4 : Below w.heap.size w w4 := hw3.trans (hb4.mono hw3.size)
  clear o3 c4 hb4 hw3
  obtain ⟨A4y, c4y, rfl, _, _⟩ := ow4.shape
  have c6o : ∀ o, (w4.alloc o).cell? ⟨w.heap.size, 0, none⟩ = some (v0) := fun o => (World.cell?_alloc_lt w4 o ⟨w.heap.size, 0, none⟩ (by show w.heap.size < w4.heap.size; omega)).trans c6
  go_wp2_with fail
  refine (BranchText_any _ _ x0 _ (ow4.alloc _).is (Nat.le_refl _) ((ht.later hw4).al _)).mono ?_
  rintro e w5 ⟨rfl, hb5⟩
  have hs5 : w4.heap.size + 1 ≤ w5.heap.size := by have := hb5.size; simp at this; omega
  have hc5 : Below w4.heap.size w4 w5 := ((Below.refl _ _).alloc (Nat.le_refl _) _).trans (hb5.mono (by simp))
  have c7 : w5.cell? ⟨w4.heap.size, 0, none⟩ = some ((.slice A4y (x0).length c4y)) := (hb5.cell (p := ⟨w4.heap.size, 0, none⟩) (by simp)).trans (by simp [go_sem])
  have o8 := o5.later hc5
  have o9 := ow4.later hc5
  have c10 := (Chg.of_below hc5).cell c6 (.inr (Nat.zero_le _))
  have hw5 : Below w.heap.size w w5 := hw4.trans (hc5.mono hw4.size)
  clear o5 ow4 c6 c6o hb5 hc5 hw4
  go_wp2_with fail
  go_region_held3 (fun W => W.cell? ⟨w4.heap.size, 0, none⟩ = some (.slice A4y (x0).length c4y) ∧ W.cell? ⟨w.heap.size, 0, none⟩ = some v0) (first | go_keep) (first | (go_at_call 6; refine (toBranch_any _ _ x0 _ (is0.below hw5.drew) hw5.size Z0.out).mono ?_; rintro e U6 ⟨y6, rfl, owy, hby⟩; have p0 := (hby.cell (p := ⟨w4.heap.size, 0, none⟩) (by show w4.heap.size < w5.heap.size; omega)).trans c7; have p1 := (hby.cell (p := ⟨w.heap.size, 0, none⟩) (by show w.heap.size < w5.heap.size; omega)).trans c10) | (go_at_call 8; refine (eqBranch_any _ _ _ _ x0 x0 _ ((o9.later (below_drewN (Below.refl _ _) 1)).later hby).is owy.is (Nat.le_refl _) (Nat.le_refl _)).mono ?_; rintro e w6 ⟨rfl, hbz⟩; have t0 := (hbz.cell (p := ⟨w4.heap.size, 0, none⟩) (by show w4.heap.size < _; have := hby.size; simp at this; omega)).trans p0; have t1 := (hbz.cell (p := ⟨w.heap.size, 0, none⟩) (by show w.heap.size < _; have := hby.size; simp at this; omega)).trans p1))
  have hs6 := hby.size
  have hb6 : Below w5.heap.size w5 w6 := ((below_drewN (Below.refl _ _) 1).trans hby).trans (hbz.mono hs6)
  replace hs6 := hb6.size
  have o11 := o8.later hb6
  have o12 := o9.later hb6
  have c13 := (Chg.of_below hb6).cell c10 (.inr (Nat.zero_le _))
  have c14 := (Chg.of_below hb6).cell c7 (.inr (Nat.zero_le _))
  have hw6 : Below w.heap.size w w6 := hw5.trans (hb6.mono hw5.size)
  clear hby hbz owy p0 p1 t0 t1 o8 o9 c10 c7 hb6 hw5
  go_wp2_with fail
  go_ret
  exact ⟨rfl, hw6⟩
end Go.Proofs.YtfginjifplcedaaDoor.fnExactBranchText
