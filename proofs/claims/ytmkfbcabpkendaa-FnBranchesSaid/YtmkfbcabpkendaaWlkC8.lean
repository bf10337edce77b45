/-
  WALKS, CHAPTER 3: branches of exponents, by the reference.
-/
import Derived.Test.YtmkfbcabpkendaaWlkC7
namespace Go.Proofs.Ytmkfbcabpkendaa
open Go.RowKit
set_option linter.unusedVariables false
namespace WC
open K Pl WA WL
/-- A world after some draws. -/
def Drawn2 (w w' : World) : Prop := ∃ m, w' = w.drewN m
theorem Drawn2.refl (w : World) : Drawn2 w w := ⟨0, rfl⟩
theorem Drawn2.drewN {w w' : World} (h : Drawn2 w w') (n : Nat) : Drawn2 w (w'.drewN n) := by
  obtain ⟨m, rfl⟩ := h
  exact ⟨m + n, by simp⟩
theorem Drawn2.cell {w w' : World} (h : Drawn2 w w') (a : Addr) : w'.cell? a = w.cell? a := by obtain ⟨m, rfl⟩ := h; rfl
theorem Drawn2.frozen {w w' : World} (h : Drawn2 w w') (a : Addr) : w'.frozen? a = w.frozen? a := by obtain ⟨m, rfl⟩ := h; rfl
theorem Drawn2.size {w w' : World} (h : Drawn2 w w') : w'.heap.size = w.heap.size := by obtain ⟨m, rfl⟩ := h; rfl
theorem Drawn2.below {w w' : World} (h : Drawn2 w w') (B : Nat) : Below B w w' := by obtain ⟨m, rfl⟩ := h; exact below_drewN (Below.refl _ _) _
theorem okX_short {n : Int} {xs : List Int} (j : Nat) (hj : j < xs.length) (h : inR (gx xs j) 1 2000 = false) : okX n xs = false := by
  unfold okX
  rw [show wiB xs 1 2000 = false from allF_false j (by omega) hj h]; simp
theorem okX_asc {n : Int} {xs : List Int} (j : Nat) (h1 : 1 ≤ j) (hj : j < xs.length) (h : gx xs j ≤ gx xs (j - 1)) : okX n xs = false := by
  unfold okX
  rw [show ascB xs = false from allF_false j h1 hj (by simp; exact h)]; simp
theorem l01In_b {b : Bool} (n l m : Int) (w : World) (h : inR n l m = b) : Calls Try.prog 49 #[.int .i64 n, .int .i64 l, .int .i64 m] w fun e w' => e = .returned (.bool b) ∧ w' = w :=
  (l01In_any n l m w).mono fun _ _ ⟨a, c⟩ => ⟨by rw [← h]; exact a, c.symm⟩
end WC
end Go.Proofs.Ytmkfbcabpkendaa
