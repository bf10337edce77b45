/-
  WALKS, THE STATEMENTS' OWN HELPERS OVER [][]int64: eqInt64SS, markInt64SS, heldInt64SS, toInt64SS.
-/
import Derived.Test.YtogkblncdpbhnaaKitR
import Derived.Test.YtogkblncdpbhnaaWlkL1
namespace Go.Proofs.Ytogkblncdpbhnaa
open Go.RowKit
set_option linter.unusedVariables false
namespace WL
open K Pl
theorem Is.drewN {w : World} {B : Nat} {v : Value} {xs : List Int} (h : Is w B v xs) (n : Nat) : Is (w.drewN n) B v xs := by
  obtain ⟨A, k, c, e, h1, h2, h3⟩ := h
  exact ⟨A, k, c, e, h1, h2, h3.keep fun _ _ => rfl⟩
/-- A world after some draws. -/
def Drawn (w w' : World) : Prop := ∃ m, w' = w.drewN m
theorem Drawn.refl (w : World) : Drawn w w := ⟨0, rfl⟩
theorem Drawn.drewN {w w' : World} (h : Drawn w w') (n : Nat) : Drawn w (w'.drewN n) := by
  obtain ⟨m, rfl⟩ := h
  exact ⟨m + n, by simp⟩
theorem Drawn.cell {w w' : World} (h : Drawn w w') (a : Addr) : w'.cell? a = w.cell? a := by obtain ⟨m, rfl⟩ := h; rfl
theorem Drawn.below {w w' : World} (h : Drawn w w') (B : Nat) : Below B w w' := by obtain ⟨m, rfl⟩ := h; exact below_drewN (Below.refl _ _) _
theorem Is.drawn {w w' : World} {B : Nat} {v : Value} {xs : List Int} (h : Is w B v xs) (hd : Drawn w w') : Is w' B v xs := by obtain ⟨m, rfl⟩ := hd; exact Is.drewN h m
theorem take_eq_step2 (xs ys : List (List Int)) (k n : Nat) (hx : xs.length = n) (hy : ys.length = n) (hk : k < n) (h : xs.take k = ys.take k) (e : (gxx xs k == gxx ys k) = true) : xs.take (k + 1) = ys.take (k + 1) := by
  rw [List.take_succ_eq_append_getElem (by omega), List.take_succ_eq_append_getElem (by omega), h, ← gxx_eq xs k (by omega), ← gxx_eq ys k (by omega), eq_of_beq e]
theorem ne_of_gxx (xs ys : List (List Int)) (k : Nat) (h : (gxx xs k == gxx ys k) = false) : (xs == ys) = false := by
  rw [beq_eq_false_iff_ne] at h ⊢; intro e; subst e; exact h rfl
theorem ne_of_len2 (xs ys : List (List Int)) (h : ¬ xs.length = ys.length) : (xs == ys) = false := by
  rw [beq_eq_false_iff_ne]; intro e; subst e; exact h rfl
end WL
end Go.Proofs.Ytogkblncdpbhnaa
