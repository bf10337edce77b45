/-
  WALKS, CHAPTER 2: CyclotomicPolynomial by the reference.
-/
import Derived.Test.YtogkblncdpbhnaaWlkY2
namespace Go.Proofs.Ytogkblncdpbhnaa
open Go.RowKit
set_option linter.unusedVariables false
namespace WY
open K Pl WA WL WB
noncomputable def cycF (z : Int) : List Int × Int := if inR z 1 2000 then (phi z.toNat, 0) else ([], 2)
theorem cycF_len (z : Int) : (cycF z).1.length ≤ 2001 := by
  unfold cycF
  split
  · next h =>
    have := inR_true.1 h
    have := totN_le z.toNat
    simp only [phi_len]; omega
  · simp
theorem sCyclotomicPolynomial_any (z : Int) (w : World) : Calls Try.prog 13 #[.int .i64 z] w (Li2 (cycF z) w) := by
  cases hz : inR z 1 2000
  · have Hr := Lib.hid (show cycF z = ([], 2) by unfold cycF; rw [hz]; rfl)
    go_enter Try.func13, Try.ntmps13
    go_wp2_with fail
    refine (l01In_any _ _ _ _).mono ?_
    rintro e w' ⟨rfl, rfl⟩
    rw [hz]
    go_wp2_with fail
    go_ret2
    exact Li2.nil Hr.out (Below.refl _ _)
  · have Hr := Lib.hid (show cycF z = (phi z.toNat, 0) by unfold cycF; rw [hz]; rfl)
    have hb := inR_true.1 hz
    obtain ⟨n, rfl⟩ := Int.eq_ofNat_of_zero_le (show 0 ≤ z by omega)
    rw [Int.toNat_natCast] at Hr
    go_enter Try.func13, Try.ntmps13
    go_wp2_with fail
    refine (l01In_any _ _ _ _).mono ?_
    rintro e w' ⟨rfl, rfl⟩
    rw [hz]
    go_wp2_with fail
    refine (l02Cyclotomic_any n _ (by omega) (by omega)).mono ?_
    rintro e w1 ⟨v, rfl, own, hb1⟩
    have Own := Lib.hid own
    clear own
    go_wp2_with fail
    go_ret2
    exact ⟨v, by rw [Hr.out]; rfl, by rw [Hr.out]; exact Own.out, hb1⟩
end WY
end Go.Proofs.Ytogkblncdpbhnaa
