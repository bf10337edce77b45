/-
  WALKS, THE STATEMENTS' OWN HELPERS OVER []int64: toInt64S (a copy), eqInt64S (are two lists the same), markInt64S (numbers are written), heldInt64S (are they still there).
-/
import Derived.Test.YtogkblncdpbhnaaKit
import Derived.Deep.QuietTactic
import Derived.BigQuiet
namespace Go.Proofs.Ytogkblncdpbhnaa
open Go.RowKit
set_option linter.unusedVariables false
namespace WL
open K Pl

/-- The first k numbers of xs, then zeros: n in all. -/
def fill (xs : List Int) (k n : Nat) : List Value := (List.range n).map fun j => Value.int .i64 (if j < k then gx xs j else 0)
theorem fill_zero (xs : List Int) (n : Nat) : fill xs 0 n = List.replicate n (.int .i64 0) := by simp [fill, List.map_const']
theorem fill_len (xs : List Int) (k n : Nat) : (fill xs k n).length = n := by simp [fill]
theorem fill_step (xs : List Int) (k n : Nat) (hk : k < n) : (fill xs k n).set k (.int .i64 (gx xs k)) = fill xs (k + 1) n := by
  apply List.ext_getElem (by simp [fill])
  intro j h1 h2
  rw [List.getElem_set]
  by_cases hj : k = j
  · subst hj; simp [fill]
  · simp only [hj, if_false, fill, List.getElem_map, List.getElem_range]
    by_cases h1 : j < k
    · rw [if_pos h1, if_pos (by omega)]
    · rw [if_neg h1, if_neg (by omega)]
theorem fill_all (xs : List Int) (n : Nat) (h : xs.length = n) : fill xs n n = xs.map (Value.int .i64) := by
  subst h
  apply List.ext_getElem (by simp [fill])
  intro j h1 h2
  simp [fill] at h1 ⊢
  rw [if_pos h1, gx_eq xs j h1]


theorem take_eq_step (xs ys : List Int) (k n : Nat) (hx : xs.length = n) (hy : ys.length = n) (hk : k < n) (h : xs.take k = ys.take k) (e : gx xs k = gx ys k) : xs.take (k + 1) = ys.take (k + 1) := by
  rw [List.take_succ_eq_append_getElem (by omega), List.take_succ_eq_append_getElem (by omega), h, ← gx_eq xs k (by omega), ← gx_eq ys k (by omega), e]
theorem ne_of_gx (xs ys : List Int) (k : Nat) (h : ¬ gx xs k = gx ys k) : (xs == ys) = false := by
  rw [beq_eq_false_iff_ne]; intro e; subst e; exact h rfl
theorem ne_of_len (xs ys : List Int) (h : ¬ xs.length = ys.length) : (xs == ys) = false := by
  rw [beq_eq_false_iff_ne]; intro e; subst e; exact h rfl

end WL
end Go.Proofs.Ytogkblncdpbhnaa
