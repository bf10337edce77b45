/-
  WALKS, CHAPTER 2: PolynomialText, both sides.
-/
import Derived.Test.YtdfhkkngbpidaaaDoorWlkZ1
namespace Go.Proofs.YtdfhkkngbpidaaaDoor
open Go.RowKit
set_option linter.unusedVariables false
namespace WZ
open K Pl WA WW WB WX
theorem poly_bd {xs : List Int} (h : isPoly xs = true) : xs.length ≤ 2001 ∧ (xs.length = 0 ∨ gx xs (xs.length - 1) ≠ 0) ∧ ∀ k, -1000000000000000 ≤ gx xs k ∧ gx xs k ≤ 1000000000000000 :=
  ⟨(isPoly_true.1 h).1, (isPoly_true.1 h).2.1, fun k => by have := isPoly_gx h k; omega⟩
theorem polynomialText_is (B : Nat) (v : Value) (xs : List Int) (w : World) (h : Is w B v xs) (hB : B ≤ w.heap.size) (ht : Tab w) (hp : isPoly xs = true) :
    Calls Tryd.prog 23 #[v] w fun e w' => e = .returned (.string (S (ptx xs))) ∧ Below w.heap.size w w' := by
  obtain ⟨A, n, c, rfl, hnc, hcm, hrd⟩ := h
  obtain ⟨h1, h2, h3⟩ := poly_bd hp
  have hl := hrd.len
  exact polynomialText_any A n c xs w ht hl (by omega) hcm hnc (fun h0 => by
    obtain ⟨ad, e, hab, hc⟩ := hrd.pos h0
    exact ⟨ad, e, by omega, hc⟩) h3
theorem l02Text_is (B : Nat) (v : Value) (xs : List Int) (w : World) (h : Is w B v xs) (hB : B ≤ w.heap.size) (hp : isPoly xs = true) :
    Calls Tryd.prog 25 #[v] w fun e w' => e = .returned (.string (S (ptx xs))) ∧ Below w.heap.size w w' := by
  obtain ⟨A, n, c, rfl, hnc, hcm, hrd⟩ := h
  obtain ⟨h1, h2, h3⟩ := poly_bd hp
  have hl := hrd.len
  exact l02Text_any A n c xs w hl (by omega) hcm hnc (fun h0 => by
    obtain ⟨ad, e, hab, hc⟩ := hrd.pos h0
    exact ⟨ad, e, by omega, hc⟩) h3 (by omega)
theorem sPolynomialText_any (B : Nat) (v : Value) (xs : List Int) (w : World) (h : Is w B v xs) (hB : B ≤ w.heap.size) : Calls Tryd.prog 7 #[v] w (St (ptP xs) w) := by
  cases hp : isPoly xs
  · have Hr := Lib.hid (show ptP xs = ([], 1) by unfold ptP; rw [hp]; rfl)
    go_enter Tryd.func7, Tryd.ntmps7
    go_wp2_with fail
    refine (l02Is_any B v xs _ h hB).mono ?_
    rintro e w1 ⟨rfl, rfl⟩
    rw [hp]
    go_wp2_with fail
    go_ret2
    exact ⟨by rw [Hr.out]; rfl, Below.refl _ _⟩
  · have Hr := Lib.hid (show ptP xs = (ptx xs, 0) by unfold ptP; rw [hp]; rfl)
    go_enter Tryd.func7, Tryd.ntmps7
    go_wp2_with fail
    refine (l02Is_any B v xs _ h hB).mono ?_
    rintro e w1 ⟨rfl, rfl⟩
    rw [hp]
    go_wp2_with fail
    refine (l02Text_is B v xs _ h hB hp).mono ?_
    rintro e w1 ⟨rfl, hb1⟩
    go_wp2_with fail
    go_ret2
    exact ⟨by rw [Hr.out]; rfl, hb1⟩
theorem PolynomialText_any (B : Nat) (v : Value) (xs : List Int) (w : World) (h : Is w B v xs) (hB : B ≤ w.heap.size) (ht : Tab w) : Calls Tryd.prog 6 #[v] w (St (ptP xs) w) := by
  cases hp : isPoly xs
  · have Hr := Lib.hid (show ptP xs = ([], 1) by unfold ptP; rw [hp]; rfl)
    go_enter Tryd.func6, Tryd.ntmps6
    go_wp2_with fail
    refine (IsPolynomial_any B v xs _ h hB).mono ?_
    rintro e w1 ⟨rfl, rfl⟩
    rw [hp]
    go_wp2_with fail
    go_ret2
    exact ⟨by rw [Hr.out]; rfl, Below.refl _ _⟩
  · have Hr := Lib.hid (show ptP xs = (ptx xs, 0) by unfold ptP; rw [hp]; rfl)
    go_enter Tryd.func6, Tryd.ntmps6
    go_wp2_with fail
    refine (IsPolynomial_any B v xs _ h hB).mono ?_
    rintro e w1 ⟨rfl, rfl⟩
    rw [hp]
    go_wp2_with fail
    refine (polynomialText_is B v xs _ h hB ht hp).mono ?_
    rintro e w1 ⟨rfl, hb1⟩
    go_wp2_with fail
    go_ret2
    exact ⟨by rw [Hr.out]; rfl, hb1⟩
end WZ
end Go.Proofs.YtdfhkkngbpidaaaDoor
