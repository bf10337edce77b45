/-
  The program's MakeFraction returns what the reference's returns, for all arguments.
  THE WALK THROUGH 'laws.FnExactMakeFraction', out of the contracts of what it calls.
-/
import Derived.Test.YtcdpfomiiebibaaWlkA4
import Derived.Test.YtcdpfomiiebibaaWlkL2
namespace Go.Proofs.Ytcdpfomiiebibaa.fnExactMakeFraction
open Go.RowKit
set_option linter.unusedVariables false
open Pl K WA WL
set_option maxHeartbeats 1600000 in
theorem walk (w : World) (a0 : Int) (wf0 : (Lit.int .i64 a0).wf = true) (a1 : Int) (wf1 : (Lit.int .i64 a1).wf = true) :
    Calls Try.prog 8 #[.int .i64 a0, .int .i64 a1] w fun e w' => e = .returned (.bool true) ∧ Below w.heap.size w w' := by
  have hw0 : Below w.heap.size w w := Below.refl _ _
  go_enter Try.func8, Try.ntmps8
  go_wp2_with fail
  refine (sMakeFraction_any _ _ _).mono ?_
  rintro e w1 ⟨rfl, hb1⟩
  have hs1 := hb1.size
  have hw1 : Below w.heap.size w w1 := hw0.trans (hb1.mono hw0.size)
  clear hb1 hw0
  go_wp2_with fail
  refine (MakeFraction_any _ _ _).mono ?_
  rintro e w2 ⟨rfl, hb2⟩
  have hs2 : w1.heap.size + 1 ≤ w2.heap.size := by have := hb2.size; simp at this; omega
  have hc2 : Below w1.heap.size w1 w2 := ((Below.refl _ _).alloc (Nat.le_refl _) _).trans (hb2.mono (by simp))
  have c1 : w2.cell? ⟨w1.heap.size, 0, none⟩ = some (.int .i64 (mkF a0 a1).1) := (hb2.cell (p := ⟨w1.heap.size, 0, none⟩) (by simp)).trans (by simp [go_sem])
  have c2 : w2.cell? ⟨w1.heap.size, 1, none⟩ = some (.int .i64 (mkF a0 a1).2.1) := (hb2.cell (p := ⟨w1.heap.size, 1, none⟩) (by simp)).trans (by simp [go_sem])
  have hw2 : Below w.heap.size w w2 := hw1.trans (hc2.mono hw1.size)
  clear hb2 hc2 hw1
  have c1o : ∀ o, (w2.alloc o).cell? ⟨w1.heap.size, 0, none⟩ = some (.int .i64 (mkF a0 a1).1) := fun o => (World.cell?_alloc_lt w2 o ⟨w1.heap.size, 0, none⟩ (by show w1.heap.size < w2.heap.size; omega)).trans c1
  have c2o : ∀ o, (w2.alloc o).cell? ⟨w1.heap.size, 1, none⟩ = some (.int .i64 (mkF a0 a1).2.1) := fun o => (World.cell?_alloc_lt w2 o ⟨w1.heap.size, 1, none⟩ (by show w1.heap.size < w2.heap.size; omega)).trans c2
  go_wp2_with fail
  refine (eqFraction_any _ _ _ _ _).mono ?_
  rintro e w3 ⟨rfl, hb3⟩
  have hs3 : w2.heap.size + 1 ≤ w3.heap.size := by have := hb3.size; simp at this; omega
  have hc3 : Below w2.heap.size w2 w3 := ((Below.refl _ _).alloc (Nat.le_refl _) _).trans (hb3.mono (by simp))
  have c3 : w3.cell? ⟨w2.heap.size, 0, none⟩ = some (.int .i64 (mkF a0 a1).1) := (hb3.cell (p := ⟨w2.heap.size, 0, none⟩) (by simp)).trans (by simp [go_sem])
  have c4 : w3.cell? ⟨w2.heap.size, 1, none⟩ = some (.int .i64 (mkF a0 a1).2.1) := (hb3.cell (p := ⟨w2.heap.size, 1, none⟩) (by simp)).trans (by simp [go_sem])
  have c5 := (Chg.of_below hc3).cell c1 (.inr (Nat.zero_le _))
  have c6 := (Chg.of_below hc3).cell c2 (.inr (Nat.zero_le _))
  have hw3 : Below w.heap.size w w3 := hw2.trans (hc3.mono hw2.size)
  clear c1 c1o c2 c2o hb3 hc3 hw2
  go_wp2_with fail
  go_ret
  exact ⟨rfl, hw3⟩
end Go.Proofs.Ytcdpfomiiebibaa.fnExactMakeFraction
