/-
  WALKS, CHAPTER 1: fractions: is it one, sums, products, which is less.
-/
import Derived.Test.YtmileckhhiohfaaDoorWlkA4
namespace Go.Proofs.YtmileckhhiohfaaDoor
open Go.RowKit
set_option linter.unusedVariables false
namespace WA
open K Pl
theorem isFraction_any (t b : Int) (w : World) : Calls Tryd.prog 13 #[.agg #[.int .i64 t, .int .i64 b]] w fun e w' => e = .returned (.bool (isFr t b)) ∧ Below w.heap.size w w' := by
  have Hd := Lib.hid (show isFr t b = (isInt t && isNat b && (gcdI t b == 1)) from rfl)
  cases hA : isInt t
  · have Hr := Lib.hid (show isFr t b = false by rw [Hd.out, hA]; rfl)
    go_enter Tryd.func13, Tryd.ntmps13
    go_wp2_with (go_at_call 25; refine (isInteger_any _ _).mono ?_; rintro e w' ⟨rfl, rfl⟩)
    go_ret
    exact ⟨ret_b Hr.out.symm, by go_grown⟩
  · cases hB : isNat b
    · have Hr := Lib.hid (show isFr t b = false by rw [Hd.out, hA, hB]; rfl)
      go_enter Tryd.func13, Tryd.ntmps13
      go_wp2_with (first | (go_at_call 25; refine (isInteger_any _ _).mono ?_; rintro e w' ⟨rfl, rfl⟩) | (go_at_call 26; refine (isNatural_any _ _).mono ?_; rintro e w' ⟨rfl, rfl⟩))
      go_ret
      exact ⟨ret_b Hr.out.symm, by go_grown⟩
    · have ba := isInt_true.1 hA
      have bb := isNat_true.1 hB
      have Hr := Lib.hid (show isFr t b = (gcdI t b == 1) by rw [Hd.out, hA, hB]; rfl)
      go_enter Tryd.func13, Tryd.ntmps13
      go_wp2_with (first | (go_at_call 25; refine (isInteger_any _ _).mono ?_; rintro e w' ⟨rfl, rfl⟩) | (go_at_call 26; refine (isNatural_any _ _).mono ?_; rintro e w' ⟨rfl, rfl⟩))
      refine (divisor_any _ _ _ (by omega) (by omega) (by omega) (by omega)).mono ?_
      rintro e w1 ⟨rfl, hb1⟩
      have hw1 : Below w.heap.size w w1 := ((Below.refl _ _).alloc (Nat.le_refl _) _).trans (hb1.mono (by simp))
      clear hb1
      go_wp2_with fail
      go_ret
      exact ⟨ret_b Hr.out.symm, hw1⟩
theorem l01Fraction_any (t b : Int) (w : World) : Calls Tryd.prog 11 #[.agg #[.int .i64 t, .int .i64 b]] w fun e w' => e = .returned (.bool (isFr t b)) ∧ Below w.heap.size w w' := by
  have Hd := Lib.hid (show isFr t b = (isInt t && isNat b && (gcdI t b == 1)) from rfl)
  cases hA : isInt t
  · have Hr := Lib.hid (show isFr t b = false by rw [Hd.out, hA]; rfl)
    go_enter Tryd.func11, Tryd.ntmps11
    go_wp2_with (go_at_call 20; refine (l01Integer_any _ _).mono ?_; rintro e w' ⟨rfl, rfl⟩)
    go_ret
    exact ⟨ret_b Hr.out.symm, by go_grown⟩
  · cases hB : isNat b
    · have Hr := Lib.hid (show isFr t b = false by rw [Hd.out, hA, hB]; rfl)
      go_enter Tryd.func11, Tryd.ntmps11
      go_wp2_with (first | (go_at_call 20; refine (l01Integer_any _ _).mono ?_; rintro e w' ⟨rfl, rfl⟩) | (go_at_call 21; refine (l01Natural_any _ _).mono ?_; rintro e w' ⟨rfl, rfl⟩))
      go_ret
      exact ⟨ret_b Hr.out.symm, by go_grown⟩
    · have ba := isInt_true.1 hA
      have bb := isNat_true.1 hB
      have Hr := Lib.hid (show isFr t b = (gcdI t b == 1) by rw [Hd.out, hA, hB]; rfl)
      go_enter Tryd.func11, Tryd.ntmps11
      go_wp2_with (first | (go_at_call 20; refine (l01Integer_any _ _).mono ?_; rintro e w' ⟨rfl, rfl⟩) | (go_at_call 21; refine (l01Natural_any _ _).mono ?_; rintro e w' ⟨rfl, rfl⟩))
      refine (l01Gcd_any _ _ _ (by omega) (by omega) (by omega) (by omega)).mono ?_
      rintro e w1 ⟨rfl, rfl⟩
      go_wp2_with fail
      go_ret
      exact ⟨ret_b Hr.out.symm, by go_grown⟩
end WA
end Go.Proofs.YtmileckhhiohfaaDoor
