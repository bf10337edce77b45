/-
  PLAIN LAWS, CHAPTER 4: the blocks of a sequence.
-/
import Derived.Test.YtcnoaclijhcckaaPlG
import Derived.Test.YtcnoaclijhcckaaKitR
namespace Go.Proofs.Ytcnoaclijhcckaa
set_option linter.unusedVariables false
namespace Pl
open K
/-- The last row of a list of rows. -/
def lastR (b : List (List Int)) : List Int := gxx b (b.length - 1)
/-- A row for y is there, or is laid behind the others. -/
def opn (b : List (List Int)) (y : Int) : List (List Int) := if b.length = 0 ∨ gx (lastR b) 0 ≠ y then b ++ [[y, 0]] else b
/-- The last row's count goes up by one. -/
def bump (b : List (List Int)) (y m : Int) : List (List Int) := b.set (b.length - 1) [y, m + 1]
def blkL (ys : List Int) : Nat → List (List Int)
  | 0 => []
  | k + 1 => bump (opn (blkL ys k) (gx ys k)) (gx (lastR (opn (blkL ys k) (gx ys k))) 0) (gx (lastR (opn (blkL ys k) (gx ys k))) 1)
theorem gxx_snoc_last (b : List (List Int)) (r : List Int) : gxx (b ++ [r]) b.length = r := by rw [gxx_append]; simp [gxx]
theorem opn_new {b : List (List Int)} {y : Int} (h : b.length = 0 ∨ gx (lastR b) 0 ≠ y) : opn b y = b ++ [[y, 0]] := if_pos h
theorem opn_old {b : List (List Int)} {y : Int} (h1 : b.length ≠ 0) (h2 : gx (lastR b) 0 = y) : opn b y = b := if_neg (by intro h; rcases h with h | h; exact h1 h; exact h h2)
theorem lastR_snoc (b : List (List Int)) (r : List Int) : lastR (b ++ [r]) = r := by
  unfold lastR
  rw [show (b ++ [r]).length - 1 = b.length by simp]
  exact gxx_snoc_last b r
theorem lastR_bump (b : List (List Int)) (y m : Int) (h : b.length ≠ 0) : lastR (bump b y m) = [y, m + 1] := by
  unfold lastR bump
  rw [List.length_set, gxx_set _ _ _ _ (by omega), if_pos rfl]
/-- What stands after k numbers. -/
theorem blk_inv (ys : List Int) : ∀ k, (blkL ys k).length ≤ k ∧ (1 ≤ k → (blkL ys k).length ≠ 0 ∧ ∃ m : Int, lastR (blkL ys k) = [gx ys (k - 1), m] ∧ 1 ≤ m ∧ m ≤ k)
  | 0 => ⟨by simp [blkL], fun h => by omega⟩
  | k + 1 => by
    obtain ⟨hl, hk⟩ := blk_inv ys k
    by_cases hc : (blkL ys k).length = 0 ∨ gx (lastR (blkL ys k)) 0 ≠ gx ys k
    · have e : blkL ys (k + 1) = bump (blkL ys k ++ [[gx ys k, 0]]) (gx ys k) 0 := by
        rw [blkL, opn_new hc, lastR_snoc]; rfl
      rw [e]
      refine ⟨by simp [bump]; omega, fun _ => ⟨by simp [bump], 1, ?_, by omega, by omega⟩⟩
      rw [lastR_bump _ _ _ (by simp)]; rfl
    · have h1 : (blkL ys k).length ≠ 0 := fun h => hc (.inl h)
      have h2 : gx (lastR (blkL ys k)) 0 = gx ys k := Decidable.byContradiction fun h => hc (.inr h)
      have hk1 : 1 ≤ k := by
        rcases Nat.eq_zero_or_pos k with rfl | h
        · exact absurd rfl h1
        · exact h
      obtain ⟨_, m, hm, hm1, hm2⟩ := hk hk1
      have h3 : gx ys (k - 1) = gx ys k := by rw [hm] at h2; exact h2
      have e : blkL ys (k + 1) = bump (blkL ys k) (gx ys k) m := by
        rw [blkL, opn_old h1 h2, hm, h3]; rfl
      rw [e]
      refine ⟨by simp [bump]; omega, fun _ => ⟨by simpa [bump] using h1, m + 1, ?_, by omega, by push_cast; omega⟩⟩
      rw [lastR_bump _ _ _ h1]; rfl
/-- What stands once the row for the number is there. -/
theorem opn_inv (ys : List Int) (k : Nat) : (opn (blkL ys k) (gx ys k)).length ≤ k + 1 ∧ (opn (blkL ys k) (gx ys k)).length ≠ 0 ∧ ∃ m : Int, lastR (opn (blkL ys k) (gx ys k)) = [gx ys k, m] ∧ 0 ≤ m ∧ m ≤ k ∧ blkL ys (k + 1) = bump (opn (blkL ys k) (gx ys k)) (gx ys k) m := by
  obtain ⟨hl, hk⟩ := blk_inv ys k
  by_cases hc : (blkL ys k).length = 0 ∨ gx (lastR (blkL ys k)) 0 ≠ gx ys k
  · rw [opn_new hc]
    refine ⟨by simp; omega, by simp, 0, lastR_snoc _ _, by omega, by omega, ?_⟩
    rw [blkL, opn_new hc, lastR_snoc]; rfl
  · have h1 : (blkL ys k).length ≠ 0 := fun h => hc (.inl h)
    have h2 : gx (lastR (blkL ys k)) 0 = gx ys k := Decidable.byContradiction fun h => hc (.inr h)
    have hk1 : 1 ≤ k := by
      rcases Nat.eq_zero_or_pos k with rfl | h
      · exact absurd rfl h1
      · exact h
    obtain ⟨_, m, hm, hm1, hm2⟩ := hk hk1
    have h3 : gx ys (k - 1) = gx ys k := by rw [hm] at h2; exact h2
    rw [opn_old h1 h2]
    refine ⟨by omega, h1, m, by rw [hm, h3], by omega, hm2, ?_⟩
    rw [blkL, opn_old h1 h2, hm, h3]; rfl
/-- The reference asks for the number ahead. -/
theorem blk_ahead (ys : List Int) (k : Nat) (h : 1 ≤ k) : ((blkL ys k).length = 0 ∨ gx (lastR (blkL ys k)) 0 ≠ gx ys k) ↔ gx ys k ≠ gx ys (k - 1) := by
  obtain ⟨h1, m, hm, _⟩ := (blk_inv ys k).2 h
  rw [hm]
  constructor
  · rintro (h2 | h2)
    · exact absurd h2 h1
    · exact fun e => h2 e.symm
  · exact fun h2 => .inr fun e => h2 e.symm
def blkB (xs : List Int) : List (List Int) × Int := if lngC xs 0 = 0 then (blkL (lngB xs 0).1 (lngB xs 0).1.length, 0) else ([], lngC xs 0)
end Pl
end Go.Proofs.Ytcnoaclijhcckaa
