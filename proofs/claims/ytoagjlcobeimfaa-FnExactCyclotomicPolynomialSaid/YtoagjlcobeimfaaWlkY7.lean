/-
  WALKS, CHAPTER 2: CyclotomicPolynomial by the program.
-/
import Derived.Test.YtoagjlcobeimfaaWlkY4
import Derived.Test.YtoagjlcobeimfaaWlkY6
namespace Go.Proofs.Ytoagjlcobeimfaa
open Go.RowKit
set_option linter.unusedVariables false
namespace WY
open K Pl WA WL WB
theorem CyclotomicPolynomial_any (z : Int) (w : World) : Calls Try.prog 6 #[.int .i64 z] w (Li2 (cycF z) w) := by
  cases hz : inR z 1 2000
  · have Hr := Lib.hid (show cycF z = ([], 2) by unfold cycF; rw [hz]; rfl)
    go_enter Try.func6, Try.ntmps6
    go_wp2_with fail
    refine (inRange_any _ _ _ _).mono ?_
    rintro e w' ⟨rfl, rfl⟩
    rw [hz]
    go_wp2_with fail
    go_ret2
    exact Li2.nil Hr.out (Below.refl _ _)
  · have Hr := Lib.hid (show cycF z = (phi z.toNat, 0) by unfold cycF; rw [hz]; rfl)
    have hb := inR_true.1 hz
    obtain ⟨n, rfl⟩ := Int.eq_ofNat_of_zero_le (show 0 ≤ z by omega)
    rw [Int.toNat_natCast] at Hr
    go_enter Try.func6, Try.ntmps6
    go_wp2_with fail
    refine (inRange_any _ _ _ _).mono ?_
    rintro e w' ⟨rfl, rfl⟩
    rw [hz]
    go_wp2_with fail
    refine (cyclotomic_any n _ (by omega) (by omega)).mono ?_
    rintro e w1 ⟨v, rfl, own, hb1⟩
    have Own := Lib.hid own
    clear own
    go_wp2_with fail
    go_ret2
    exact ⟨v, by rw [Hr.out]; rfl, by rw [Hr.out]; exact Own.out, hb1⟩
end WY
end Go.Proofs.Ytoagjlcobeimfaa
