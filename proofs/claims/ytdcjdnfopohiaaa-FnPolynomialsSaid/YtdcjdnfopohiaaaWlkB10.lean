/-
  WALKS, CHAPTER 2: quotients, the callers.
-/
import Derived.Test.YtdcjdnfopohiaaaWlkB9
namespace Go.Proofs.Ytdcjdnfopohiaaa
open Go.RowKit
set_option linter.unusedVariables false
namespace WB
open K Pl WA WL
theorem DividePolynomials_any (B : Nat) (v v2 : Value) (xs ys : List Int) (w : World) (h : Is w B v xs) (h2 : Is w B v2 ys) (hB : B ≤ w.heap.size) : Calls Try.prog 11 #[v, v2] w (Li2 (divP xs ys) w) := by
  have Hp := Lib.hid h
  have Hq := Lib.hid h2
  clear h h2
  cases hP : isPoly xs
  · have Hr := Lib.hid (show divP xs ys = ([], 1) by unfold divP; rw [hP]; rfl)
    go_enter Try.func11, Try.ntmps11
    go_wp2_with fail
    refine (IsPolynomial_any B v xs _ Hp.out hB).mono ?_
    rintro e w' ⟨rfl, rfl⟩
    rw [hP]
    go_wp2_with fail
    go_ret2
    exact Li2.nil Hr.out (Below.refl _ _)
  · cases hQ : isPoly ys
    · have Hr := Lib.hid (show divP xs ys = ([], 1) by unfold divP; rw [hP, hQ]; rfl)
      go_enter Try.func11, Try.ntmps11
      go_wp2_with fail
      refine (IsPolynomial_any B v xs _ Hp.out hB).mono ?_
      rintro e w' ⟨rfl, rfl⟩
      rw [hP]
      go_wp2_with fail
      refine (IsPolynomial_any B v2 ys _ Hq.out hB).mono ?_
      rintro e w' ⟨rfl, rfl⟩
      rw [hQ]
      go_wp2_with fail
      go_ret2
      exact Li2.nil Hr.out (Below.refl _ _)
    · have Hr := Lib.hid (show divP xs ys = quoP xs ys by unfold divP; rw [hP, hQ]; rfl)
      have HP := Lib.hid hP
      have HQ := Lib.hid hQ
      go_enter Try.func11, Try.ntmps11
      go_wp2_with fail
      refine (IsPolynomial_any B v xs _ Hp.out hB).mono ?_
      rintro e w' ⟨rfl, rfl⟩
      rw [hP]
      go_wp2_with fail
      refine (IsPolynomial_any B v2 ys _ Hq.out hB).mono ?_
      rintro e w' ⟨rfl, rfl⟩
      rw [hQ]
      clear hP hQ
      go_wp2_with fail
      refine (quotientOf_any B v v2 xs ys _ Hp.out Hq.out hB HP.out HQ.out).mono ?_
      rintro e w1 ⟨v1, rfl, own1, hb1⟩
      go_wp2_with fail
      go_ret2
      exact ⟨v1, by rw [Hr.out]; rfl, by rw [Hr.out]; exact own1, hb1⟩
end WB
end Go.Proofs.Ytdcjdnfopohiaaa
