/-
  WALKS, CHAPTER 3: turned characteristics (the test by the program).
-/
import Derived.Test.YtmkfbcabpkendaaWlkC8
namespace Go.Proofs.Ytmkfbcabpkendaa
open Go.RowKit
set_option linter.unusedVariables false
namespace WC
open K Pl WA
theorem inRange_b {b : Bool} (n l m : Int) (w : World) (h : inR n l m = b) : Calls Try.prog 31 #[.int .i64 n, .int .i64 l, .int .i64 m] w fun e w' => e = .returned (.bool b) ∧ w' = w :=
  (inRange_any n l m w).mono fun e w' h' => ⟨by rw [h'.1, h], h'.2.symm⟩
/-- The list without its head. -/
theorem is_tail {w : World} {B n c : Nat} {ad : Addr} {xs : List Int} (h : Is w B (.slice (some ad) n c) xs) (h1 : 1 ≤ n) (hc : n ≤ c) (hm : c ≤ maxLen) : Is w B (.slice (some ⟨ad.block, ad.off + 1, none⟩) (n - 1) (c - 1)) (xs.drop 1) := by
  have he : ad.add 1 = ⟨ad.block, ad.off + 1, none⟩ := by simp [Addr.add]
  rw [← he]
  obtain ⟨A, n', c', e, _, _, hrd⟩ := h
  cases e
  have hl := hrd.len
  obtain ⟨ad', e, hab, hcs⟩ := hrd.pos (by omega)
  cases e
  refine ⟨_, _, _, rfl, by omega, by omega, ⟨by simp; omega, fun _ => ⟨_, rfl, by rw [block_of_add]; exact hab, fun j hj => ?_⟩⟩⟩
  have := hcs (1 + j) (by omega)
  rw [gx_drop, ← this]
  by_cases hj0 : j = 0
  · subst hj0; simp [Addr.add]
  · simp [Addr.add, hj0, Nat.add_assoc]
theorem tu_no1 {xs : List Int} (h2 : 2 ≤ xs.length) (hX : inR (gx xs 0) 2 64 = true) (hY : inR (gx xs 1) 1 64 = false) : isTu xs = false := by
  cases h : isTu xs
  · rfl
  · obtain ⟨_, a, b, _⟩ := isTu_true.1 h
    have : inR (gx xs 1) 1 64 = true := inR_true.2 ⟨b.1, by omega⟩
    rw [hY] at this; cases this
theorem tu_no2 {xs : List Int} (hle : gx xs 0 ≤ gx xs 1) : isTu xs = false := by
  cases h : isTu xs
  · rfl
  · obtain ⟨_, a, b, _⟩ := isTu_true.1 h
    omega
end WC
end Go.Proofs.Ytmkfbcabpkendaa
