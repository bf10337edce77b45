/-
  The program's FractionText returns what the reference's returns, for all arguments.
  THE WALK THROUGH 'laws.FnExactFractionText', out of the contracts of what it calls.
-/
import Derived.Test.YtmileckhhiohfaaDoorWlkX1
import Derived.Test.YtmileckhhiohfaaDoorWlkL2
namespace Go.Proofs.YtmileckhhiohfaaDoor.fnExactFractionText
open Go.RowKit
set_option linter.unusedVariables false
open Pl K WA WL WW WX
theorem walk (w : World) (a0 b0 : Int) (wa0 : (Lit.int .i64 a0).wf = true) (wb0 : (Lit.int .i64 b0).wf = true) (ht : Tab w) :
    Calls Tryd.prog 3 #[.agg #[.int .i64 a0, .int .i64 b0]] w fun e w' => e = .returned (.bool true) ∧ Below w.heap.size w w' := by
  clear wa0 wb0
  have hc0 : ∀ t, (w.alloc (.cells #[.int .i64 a0, .int .i64 b0] t)).cell? ⟨w.heap.size, 0, none⟩ = some (.int .i64 a0) := fun t => by simp [go_sem]
  have hc1 : ∀ t, (w.alloc (.cells #[.int .i64 a0, .int .i64 b0] t)).cell? ⟨w.heap.size, 1, none⟩ = some (.int .i64 b0) := fun t => by simp [go_sem]
  go_enter Tryd.func3, Tryd.ntmps3
  go_wp2_with fail
  refine (toFraction_any a0 b0 _).mono ?_
  rintro e w1 ⟨rfl, hb1⟩
  have k0 := (hb1.cell (p := ⟨w.heap.size, 0, none⟩) (by simp)).trans (hc0 _)
  have k1 := (hb1.cell (p := ⟨w.heap.size, 1, none⟩) (by simp)).trans (hc1 _)
  have hw1 : Below w.heap.size w w1 := ((Below.refl _ _).alloc (Nat.le_refl _) _).trans (hb1.mono (by simp))
  have hs1 : w.heap.size < w1.heap.size := World.block_lt_of_cell? w1 ⟨w.heap.size, 0, none⟩ k0
  have ht1 := (ht.al _).later hb1
  clear hb1 hc0 hc1 ht
  go_wp2_with fail
  refine (sFractionText_any a0 b0 _).mono ?_
  rintro e w2 ⟨rfl, hb2⟩
  have k2 := (hb2.cell (p := ⟨w.heap.size, 0, none⟩) hs1).trans k0
  have k3 := (hb2.cell (p := ⟨w.heap.size, 1, none⟩) hs1).trans k1
  have hw2 := hw1.trans (hb2.mono hw1.size)
  have hs2 : w.heap.size < w2.heap.size := World.block_lt_of_cell? w2 ⟨w.heap.size, 0, none⟩ k2
  have ht2 := ht1.later hb2
  clear hb2 k0 k1 ht1 hw1
  go_wp2_with fail
  refine (toFraction_any a0 b0 _).mono ?_
  rintro e w3 ⟨rfl, hb3⟩
  have hw3 := hw2.trans (hb3.mono hw2.size)
  have ht3 := ht2.later hb3
  clear hb3 ht2 k2 k3 hw2
  go_wp2_with fail
  refine (FractionText_any a0 b0 _ ht3).mono ?_
  rintro e w4 ⟨rfl, hb4⟩
  have hw4 := hw3.trans (hb4.mono hw3.size)
  clear hb4 ht3 hw3
  generalize S (ftF a0 b0).1 = tx at *
  generalize (ftF a0 b0).2 = cd at *
  go_wp2_with fail
  go_ret
  exact ⟨rfl, hw4⟩
end Go.Proofs.YtmileckhhiohfaaDoor.fnExactFractionText
