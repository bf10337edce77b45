/-
  WALKS, CHAPTER 3: multiplicities, numbers of pairs, divisors.
-/
import Derived.Test.YtcnoaclijhcckaaWlkC2
import Derived.Test.YtcnoaclijhcckaaWlkA6
import Derived.Test.YtcnoaclijhcckaaKitR
namespace Go.Proofs.Ytcnoaclijhcckaa
open Go.RowKit
set_option linter.unusedVariables false
namespace WC
open K Pl WA
theorem pairsOf_any (B : Nat) (v : Value) (xs : List Int) (w : World) (h : Is w B v xs) (hp : 0 < xs.length) : Calls Try.prog 55 #[.agg #[v]] w fun e w' => e = .returned (.int .i64 ((xs.length : Int) - 1)) ∧ Below w.heap.size w w' := by
  obtain ⟨A, n, c, rfl, hnc, hcm, hrd⟩ := h
  have Hlen := Lib.hid hrd.len
  unfold maxLen at hcm
  rw [Hlen.out] at hp ⊢
  clear hrd
  go_enter Try.func55, Try.ntmps55
  go_wp2
  go_ret
  exact ⟨rfl, (Below.refl _ _).alloc (Nat.le_refl _) _⟩
theorem isBr_rg {xs : List Int} (h : isBr xs = true) : ∀ j, j < xs.length → 0 ≤ gx xs j ∧ gx xs j ≤ 9223372036854775807 := fun j hj => by have := isBr_range h j hj; omega
end WC
end Go.Proofs.Ytcnoaclijhcckaa
