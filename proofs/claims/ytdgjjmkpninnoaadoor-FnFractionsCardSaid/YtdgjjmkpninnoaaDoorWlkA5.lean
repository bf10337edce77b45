/-
  WALKS, CHAPTER 1: fractions: is it one, sums, products, which is less.
-/
import Derived.Test.YtdgjjmkpninnoaaDoorWlkA4
namespace Go.Proofs.YtdgjjmkpninnoaaDoor
open Go.RowKit
set_option linter.unusedVariables false
namespace WA
open K Pl
theorem isFraction_any (t b : Int) (w : World) : Calls Tryd.prog 24 #[.agg #[.int .i64 t, .int .i64 b]] w fun e w' => e = .returned (.bool (isFr t b)) ∧ Below w.heap.size w w' := by
  have Hd := Lib.hid (show isFr t b = (isInt t && isNat b && (gcdI t b == 1)) from rfl)
  cases hA : isInt t
  · have Hr := Lib.hid (show isFr t b = false by rw [Hd.out, hA]; rfl)
    go_enter Tryd.func24, Tryd.ntmps24
    go_wp2_with (go_at_call 32; refine (isInteger_any _ _).mono ?_; rintro e w' ⟨rfl, rfl⟩)
    go_ret
    exact ⟨ret_b Hr.out.symm, by go_grown⟩
  · cases hB : isNat b
    · have Hr := Lib.hid (show isFr t b = false by rw [Hd.out, hA, hB]; rfl)
      go_enter Tryd.func24, Tryd.ntmps24
      go_wp2_with (first | (go_at_call 32; refine (isInteger_any _ _).mono ?_; rintro e w' ⟨rfl, rfl⟩) | (go_at_call 46; refine (isNatural_any _ _).mono ?_; rintro e w' ⟨rfl, rfl⟩))
      go_ret
      exact ⟨ret_b Hr.out.symm, by go_grown⟩
    · have ba := isInt_true.1 hA
      have bb := isNat_true.1 hB
      have Hr := Lib.hid (show isFr t b = (gcdI t b == 1) by rw [Hd.out, hA, hB]; rfl)
      go_enter Tryd.func24, Tryd.ntmps24
      go_wp2_with (first | (go_at_call 32; refine (isInteger_any _ _).mono ?_; rintro e w' ⟨rfl, rfl⟩) | (go_at_call 46; refine (isNatural_any _ _).mono ?_; rintro e w' ⟨rfl, rfl⟩))
      refine (divisor_any _ _ _ (by omega) (by omega) (by omega) (by omega)).mono ?_
      rintro e w1 ⟨rfl, hb1⟩
      have hw1 : Below w.heap.size w w1 := ((Below.refl _ _).alloc (Nat.le_refl _) _).trans (hb1.mono (by simp))
      clear hb1
      go_wp2_with fail
      go_ret
      exact ⟨ret_b Hr.out.symm, hw1⟩
theorem l01Fraction_any (t b : Int) (w : World) : Calls Tryd.prog 27 #[.agg #[.int .i64 t, .int .i64 b]] w fun e w' => e = .returned (.bool (isFr t b)) ∧ Below w.heap.size w w' := by
  have Hd := Lib.hid (show isFr t b = (isInt t && isNat b && (gcdI t b == 1)) from rfl)
  cases hA : isInt t
  · have Hr := Lib.hid (show isFr t b = false by rw [Hd.out, hA]; rfl)
    go_enter Tryd.func27, Tryd.ntmps27
    go_wp2_with (go_at_call 33; refine (l01Integer_any _ _).mono ?_; rintro e w' ⟨rfl, rfl⟩)
    go_ret
    exact ⟨ret_b Hr.out.symm, by go_grown⟩
  · cases hB : isNat b
    · have Hr := Lib.hid (show isFr t b = false by rw [Hd.out, hA, hB]; rfl)
      go_enter Tryd.func27, Tryd.ntmps27
      go_wp2_with (first | (go_at_call 33; refine (l01Integer_any _ _).mono ?_; rintro e w' ⟨rfl, rfl⟩) | (go_at_call 47; refine (l01Natural_any _ _).mono ?_; rintro e w' ⟨rfl, rfl⟩))
      go_ret
      exact ⟨ret_b Hr.out.symm, by go_grown⟩
    · have ba := isInt_true.1 hA
      have bb := isNat_true.1 hB
      have Hr := Lib.hid (show isFr t b = (gcdI t b == 1) by rw [Hd.out, hA, hB]; rfl)
      go_enter Tryd.func27, Tryd.ntmps27
      go_wp2_with (first | (go_at_call 33; refine (l01Integer_any _ _).mono ?_; rintro e w' ⟨rfl, rfl⟩) | (go_at_call 47; refine (l01Natural_any _ _).mono ?_; rintro e w' ⟨rfl, rfl⟩))
      refine (l01Gcd_any _ _ _ (by omega) (by omega) (by omega) (by omega)).mono ?_
      rintro e w1 ⟨rfl, rfl⟩
      go_wp2_with fail
      go_ret
      exact ⟨ret_b Hr.out.symm, by go_grown⟩
theorem fits_any (t b : Int) (w : World) : Calls Tryd.prog 25 #[.agg #[.int .i64 t, .int .i64 b]] w fun e w' => e = .returned (.tuple #[.agg #[.int .i64 (fits t b).1, .int .i64 (fits t b).2.1], .int .i64 (fits t b).2.2]) ∧ Below w.heap.size w w' := by
  unfold fits
  cases hA : isInt t
  · go_enter Tryd.func25, Tryd.ntmps25
    go_wp2_with (go_at_call 32; refine (isInteger_any _ _).mono ?_; rintro e w' ⟨rfl, rfl⟩)
    refine bodyPost_ret (v := .tuple #[.agg #[.int .i64 0, .int .i64 0], .int .i64 3]) (by simp [results, Tryd.results25, go_sem]) rfl ⟨rfl, ?_⟩
    go_grown
  · cases hB : isNat b
    · go_enter Tryd.func25, Tryd.ntmps25
      go_wp2_with (first | (go_at_call 32; refine (isInteger_any _ _).mono ?_; rintro e w' ⟨rfl, rfl⟩) | (go_at_call 46; refine (isNatural_any _ _).mono ?_; rintro e w' ⟨rfl, rfl⟩))
      refine bodyPost_ret (v := .tuple #[.agg #[.int .i64 0, .int .i64 0], .int .i64 3]) (by simp [results, Tryd.results25, go_sem]) rfl ⟨rfl, ?_⟩
      go_grown
    · go_enter Tryd.func25, Tryd.ntmps25
      go_wp2_with (first | (go_at_call 32; refine (isInteger_any _ _).mono ?_; rintro e w' ⟨rfl, rfl⟩) | (go_at_call 46; refine (isNatural_any _ _).mono ?_; rintro e w' ⟨rfl, rfl⟩))
      refine bodyPost_ret (v := .tuple #[.agg #[.int .i64 t, .int .i64 b], .int .i64 0]) (by simp [results, Tryd.results25, go_sem]) rfl ⟨rfl, ?_⟩
      go_grown
/-- The reference asks for a fraction in lowest terms; what it is asked of is one as soon as its numbers fit. -/
theorem l01Fit_any (t b : Int) (w : World) (hg : gcdI t b = 1) : Calls Tryd.prog 28 #[.agg #[.int .i64 t, .int .i64 b]] w fun e w' => e = .returned (.tuple #[.agg #[.int .i64 (fits t b).1, .int .i64 (fits t b).2.1], .int .i64 (fits t b).2.2]) ∧ Below w.heap.size w w' := by
  have Hf := Lib.hid (show isFr t b = (isInt t && isNat b) by unfold isFr; rw [hg]; simp)
  clear hg
  cases hA : isFr t b
  · have Hn := Lib.hid (show fits t b = (0, 0, 3) by unfold fits; rw [← Hf.out, hA]; rfl)
    go_enter Tryd.func28, Tryd.ntmps28
    go_wp2_with fail
    refine (l01Fraction_any _ _ _).mono ?_
    rintro e w1 ⟨rfl, hb1⟩
    rw [hA]
    have c0 := (hb1.cell (p := ⟨w.heap.size + 1, 0, none⟩) (by simp)).trans (by simp [go_sem] : _ = some (Value.int .i64 0))
    have c1 := (hb1.cell (p := ⟨w.heap.size + 1, 1, none⟩) (by simp)).trans (by simp [go_sem] : _ = some (Value.int .i64 0))
    have f0 := (hb1.frozen (p := ⟨w.heap.size + 1, 0, none⟩) (by simp)).trans (by simp [go_sem] : _ = false)
    have f1 := (hb1.frozen (p := ⟨w.heap.size + 1, 1, none⟩) (by simp)).trans (by simp [go_sem] : _ = false)
    have hw1 : Below w.heap.size w w1 := (((Below.refl _ _).alloc (Nat.le_refl _) _).alloc (by simp) _).trans (hb1.mono (by simp; omega))
    clear hb1
    go_wp2_with fail
    refine bodyPost_ret (v := .tuple #[.agg #[.int .i64 0, .int .i64 0], .int .i64 3]) (by simp [results, Tryd.results28, go_sem, c0, c1]) rfl ⟨by rw [Hn.out], ?_⟩
    go_grown
  · have Hn := Lib.hid (show fits t b = (t, b, 0) by unfold fits; rw [← Hf.out, hA]; rfl)
    go_enter Tryd.func28, Tryd.ntmps28
    go_wp2_with fail
    refine (l01Fraction_any _ _ _).mono ?_
    rintro e w1 ⟨rfl, hb1⟩
    rw [hA]
    have c0 := (hb1.cell (p := ⟨w.heap.size + 1, 0, none⟩) (by simp)).trans (by simp [go_sem] : _ = some (Value.int .i64 0))
    have c1 := (hb1.cell (p := ⟨w.heap.size + 1, 1, none⟩) (by simp)).trans (by simp [go_sem] : _ = some (Value.int .i64 0))
    have f0 := (hb1.frozen (p := ⟨w.heap.size + 1, 0, none⟩) (by simp)).trans (by simp [go_sem] : _ = false)
    have f1 := (hb1.frozen (p := ⟨w.heap.size + 1, 1, none⟩) (by simp)).trans (by simp [go_sem] : _ = false)
    have d0 := (hb1.cell (p := ⟨w.heap.size, 0, none⟩) (by simp; omega)).trans (by simp [go_sem] : _ = some (Value.int .i64 t))
    have d1 := (hb1.cell (p := ⟨w.heap.size, 1, none⟩) (by simp; omega)).trans (by simp [go_sem] : _ = some (Value.int .i64 b))
    have hw1 : Below w.heap.size w w1 := (((Below.refl _ _).alloc (Nat.le_refl _) _).alloc (by simp) _).trans (hb1.mono (by simp; omega))
    clear hb1
    go_wp2_with fail
    refine bodyPost_ret (v := .tuple #[.agg #[.int .i64 t, .int .i64 b], .int .i64 0]) (by simp [results, Tryd.results28, go_sem, c0, c1]) rfl ⟨by rw [Hn.out], ?_⟩
    go_grown
theorem compared_any (a b : Int) (w : World) : Calls Tryd.prog 30 #[.int .i64 a, .int .i64 b] w fun e w' => e = .returned (.int .i64 (cmpI a b)) ∧ w = w' := by
  by_cases h1 : a < b
  · have H := Lib.hid (show cmpI a b = -1 by unfold cmpI; rw [if_pos h1])
    go_enter Tryd.func30, Tryd.ntmps30
    go_wp2
    go_ret
    exact ⟨ret_i H.out.symm, rfl⟩
  · by_cases h2 : b < a
    · have H := Lib.hid (show cmpI a b = 1 by unfold cmpI; rw [if_neg h1, if_pos h2])
      go_enter Tryd.func30, Tryd.ntmps30
      go_wp2
      go_ret
      exact ⟨ret_i H.out.symm, rfl⟩
    · have H := Lib.hid (show cmpI a b = 0 by unfold cmpI; rw [if_neg h1, if_neg h2])
      go_enter Tryd.func30, Tryd.ntmps30
      go_wp2
      go_ret
      exact ⟨ret_i H.out.symm, rfl⟩
set_option maxHeartbeats 1600000 in
theorem AddFractions_any (t b u c : Int) (w : World) : Calls Tryd.prog 6 #[.agg #[.int .i64 t, .int .i64 b], .agg #[.int .i64 u, .int .i64 c]] w fun e w' => e = .returned (.tuple #[.agg #[.int .i64 (addF t b u c).1, .int .i64 (addF t b u c).2.1], .int .i64 (addF t b u c).2.2]) ∧ Below w.heap.size w w' := by
  cases hA : isFr t b
  · have Hn := Lib.hid (show addF t b u c = (0, 0, 1) by unfold addF; rw [hA]; rfl)
    go_enter Tryd.func6, Tryd.ntmps6
    go_wp2_with fail
    refine (isFraction_any _ _ _).mono ?_
    rintro e w1 ⟨rfl, hb1⟩
    rw [hA]
    have x0 := (hb1.cell (p := ⟨w.heap.size, 0, none⟩) (by simp; try omega)).trans (by simp [go_sem] : _ = some (Value.int .i64 t))
    have x1 := (hb1.cell (p := ⟨w.heap.size, 1, none⟩) (by simp; try omega)).trans (by simp [go_sem] : _ = some (Value.int .i64 b))
    have y0 := (hb1.cell (p := ⟨w.heap.size + 1, 0, none⟩) (by simp; try omega)).trans (by simp [go_sem] : _ = some (Value.int .i64 u))
    have y1 := (hb1.cell (p := ⟨w.heap.size + 1, 1, none⟩) (by simp; try omega)).trans (by simp [go_sem] : _ = some (Value.int .i64 c))
    have z0 := (hb1.cell (p := ⟨w.heap.size + 1 + 1, 0, none⟩) (by simp; try omega)).trans (by simp [go_sem] : _ = some (Value.int .i64 0))
    have z1 := (hb1.cell (p := ⟨w.heap.size + 1 + 1, 1, none⟩) (by simp; try omega)).trans (by simp [go_sem] : _ = some (Value.int .i64 0))
    have f0 := (hb1.frozen (p := ⟨w.heap.size + 1 + 1, 0, none⟩) (by simp; try omega)).trans (by simp [go_sem] : _ = false)
    have f1 := (hb1.frozen (p := ⟨w.heap.size + 1 + 1, 1, none⟩) (by simp; try omega)).trans (by simp [go_sem] : _ = false)
    have hs1 : w.heap.size + 3 ≤ w1.heap.size := by have := hb1.size; simp at this; omega
    have hw1 : Below w.heap.size w w1 := ((((Below.refl _ _).alloc (Nat.le_refl _) _).alloc (by simp) _).alloc (by simp; omega) _).trans (hb1.mono (by simp; omega))
    clear hb1
    go_wp2_with fail
    refine bodyPost_ret (v := .tuple #[.agg #[.int .i64 0, .int .i64 0], .int .i64 1]) (by simp [results, Tryd.results6, go_sem, z0, z1]) rfl ⟨by rw [Hn.out], ?_⟩
    go_grown
  · have bA := isFr_bd hA
    cases hB : isFr u c
    · have Hn := Lib.hid (show addF t b u c = (0, 0, 1) by unfold addF; rw [hA, hB]; rfl)
      go_enter Tryd.func6, Tryd.ntmps6
      go_wp2_with fail
      refine (isFraction_any _ _ _).mono ?_
      rintro e w1 ⟨rfl, hb1⟩
      rw [hA]
      have x0 := (hb1.cell (p := ⟨w.heap.size, 0, none⟩) (by simp; try omega)).trans (by simp [go_sem] : _ = some (Value.int .i64 t))
      have x1 := (hb1.cell (p := ⟨w.heap.size, 1, none⟩) (by simp; try omega)).trans (by simp [go_sem] : _ = some (Value.int .i64 b))
      have y0 := (hb1.cell (p := ⟨w.heap.size + 1, 0, none⟩) (by simp; try omega)).trans (by simp [go_sem] : _ = some (Value.int .i64 u))
      have y1 := (hb1.cell (p := ⟨w.heap.size + 1, 1, none⟩) (by simp; try omega)).trans (by simp [go_sem] : _ = some (Value.int .i64 c))
      have z0 := (hb1.cell (p := ⟨w.heap.size + 1 + 1, 0, none⟩) (by simp; try omega)).trans (by simp [go_sem] : _ = some (Value.int .i64 0))
      have z1 := (hb1.cell (p := ⟨w.heap.size + 1 + 1, 1, none⟩) (by simp; try omega)).trans (by simp [go_sem] : _ = some (Value.int .i64 0))
      have f0 := (hb1.frozen (p := ⟨w.heap.size + 1 + 1, 0, none⟩) (by simp; try omega)).trans (by simp [go_sem] : _ = false)
      have f1 := (hb1.frozen (p := ⟨w.heap.size + 1 + 1, 1, none⟩) (by simp; try omega)).trans (by simp [go_sem] : _ = false)
      have hs1 : w.heap.size + 3 ≤ w1.heap.size := by have := hb1.size; simp at this; omega
      have hw1 : Below w.heap.size w w1 := ((((Below.refl _ _).alloc (Nat.le_refl _) _).alloc (by simp) _).alloc (by simp; omega) _).trans (hb1.mono (by simp; omega))
      clear hb1
      go_wp2_with fail
      refine (isFraction_any _ _ _).mono ?_
      rintro e w2 ⟨rfl, hb2⟩
      rw [hB]
      replace x0 := (hb2.cell (p := ⟨w.heap.size, 0, none⟩) (by show w.heap.size < w1.heap.size; omega)).trans x0
      replace x1 := (hb2.cell (p := ⟨w.heap.size, 1, none⟩) (by show w.heap.size < w1.heap.size; omega)).trans x1
      replace y0 := (hb2.cell (p := ⟨w.heap.size + 1, 0, none⟩) (by show w.heap.size + 1 < w1.heap.size; omega)).trans y0
      replace y1 := (hb2.cell (p := ⟨w.heap.size + 1, 1, none⟩) (by show w.heap.size + 1 < w1.heap.size; omega)).trans y1
      replace z0 := (hb2.cell (p := ⟨w.heap.size + 1 + 1, 0, none⟩) (by show w.heap.size + 1 + 1 < w1.heap.size; omega)).trans z0
      replace z1 := (hb2.cell (p := ⟨w.heap.size + 1 + 1, 1, none⟩) (by show w.heap.size + 1 + 1 < w1.heap.size; omega)).trans z1
      replace f0 := (hb2.frozen (p := ⟨w.heap.size + 1 + 1, 0, none⟩) (by show w.heap.size + 1 + 1 < w1.heap.size; omega)).trans f0
      replace f1 := (hb2.frozen (p := ⟨w.heap.size + 1 + 1, 1, none⟩) (by show w.heap.size + 1 + 1 < w1.heap.size; omega)).trans f1
      have hs2 : w.heap.size + 3 ≤ w2.heap.size := by have := hb2.size; omega
      have hw2 : Below w.heap.size w w2 := hw1.trans (hb2.mono hw1.size)
      clear hb2 hw1
      go_wp2_with fail
      refine bodyPost_ret (v := .tuple #[.agg #[.int .i64 0, .int .i64 0], .int .i64 1]) (by simp [results, Tryd.results6, go_sem, z0, z1]) rfl ⟨by rw [Hn.out], ?_⟩
      go_grown
    · have bB := isFr_bd hB
      have Hn := Lib.hid (show addF t b u c = fits (redT (t * c + u * b) (b * c)) (redB (t * c + u * b) (b * c)) by unfold addF; rw [hA, hB]; rfl)
      have m1 := mul_bd2 t c (by omega) (by omega) (by omega) (by omega)
      have m2 := mul_bd2 u b (by omega) (by omega) (by omega) (by omega)
      have m3 := mul_bd2 b c (by omega) (by omega) (by omega) (by omega)
      have m5 := mul_bd2 t u (by omega) (by omega) (by omega) (by omega)
      have m4 := mul_pos2 b c (by omega) (by omega)
      go_enter Tryd.func6, Tryd.ntmps6
      go_wp2_with fail
      refine (isFraction_any _ _ _).mono ?_
      rintro e w1 ⟨rfl, hb1⟩
      rw [hA]
      have x0 := (hb1.cell (p := ⟨w.heap.size, 0, none⟩) (by simp; try omega)).trans (by simp [go_sem] : _ = some (Value.int .i64 t))
      have x1 := (hb1.cell (p := ⟨w.heap.size, 1, none⟩) (by simp; try omega)).trans (by simp [go_sem] : _ = some (Value.int .i64 b))
      have y0 := (hb1.cell (p := ⟨w.heap.size + 1, 0, none⟩) (by simp; try omega)).trans (by simp [go_sem] : _ = some (Value.int .i64 u))
      have y1 := (hb1.cell (p := ⟨w.heap.size + 1, 1, none⟩) (by simp; try omega)).trans (by simp [go_sem] : _ = some (Value.int .i64 c))
      have z0 := (hb1.cell (p := ⟨w.heap.size + 1 + 1, 0, none⟩) (by simp; try omega)).trans (by simp [go_sem] : _ = some (Value.int .i64 0))
      have z1 := (hb1.cell (p := ⟨w.heap.size + 1 + 1, 1, none⟩) (by simp; try omega)).trans (by simp [go_sem] : _ = some (Value.int .i64 0))
      have f0 := (hb1.frozen (p := ⟨w.heap.size + 1 + 1, 0, none⟩) (by simp; try omega)).trans (by simp [go_sem] : _ = false)
      have f1 := (hb1.frozen (p := ⟨w.heap.size + 1 + 1, 1, none⟩) (by simp; try omega)).trans (by simp [go_sem] : _ = false)
      have hs1 : w.heap.size + 3 ≤ w1.heap.size := by have := hb1.size; simp at this; omega
      have hw1 : Below w.heap.size w w1 := ((((Below.refl _ _).alloc (Nat.le_refl _) _).alloc (by simp) _).alloc (by simp; omega) _).trans (hb1.mono (by simp; omega))
      clear hb1
      go_wp2_with fail
      refine (isFraction_any _ _ _).mono ?_
      rintro e w2 ⟨rfl, hb2⟩
      rw [hB]
      replace x0 := (hb2.cell (p := ⟨w.heap.size, 0, none⟩) (by show w.heap.size < w1.heap.size; omega)).trans x0
      replace x1 := (hb2.cell (p := ⟨w.heap.size, 1, none⟩) (by show w.heap.size < w1.heap.size; omega)).trans x1
      replace y0 := (hb2.cell (p := ⟨w.heap.size + 1, 0, none⟩) (by show w.heap.size + 1 < w1.heap.size; omega)).trans y0
      replace y1 := (hb2.cell (p := ⟨w.heap.size + 1, 1, none⟩) (by show w.heap.size + 1 < w1.heap.size; omega)).trans y1
      replace z0 := (hb2.cell (p := ⟨w.heap.size + 1 + 1, 0, none⟩) (by show w.heap.size + 1 + 1 < w1.heap.size; omega)).trans z0
      replace z1 := (hb2.cell (p := ⟨w.heap.size + 1 + 1, 1, none⟩) (by show w.heap.size + 1 + 1 < w1.heap.size; omega)).trans z1
      replace f0 := (hb2.frozen (p := ⟨w.heap.size + 1 + 1, 0, none⟩) (by show w.heap.size + 1 + 1 < w1.heap.size; omega)).trans f0
      replace f1 := (hb2.frozen (p := ⟨w.heap.size + 1 + 1, 1, none⟩) (by show w.heap.size + 1 + 1 < w1.heap.size; omega)).trans f1
      have hs2 : w.heap.size + 3 ≤ w2.heap.size := by have := hb2.size; omega
      have hw2 : Below w.heap.size w w2 := hw1.trans (hb2.mono hw1.size)
      clear hb2 hw1
      go_wp2_with fail
      refine (reduced_any _ _ _ (by omega) (by omega) (by omega) (by omega) (by omega)).mono ?_
      rintro e w3 ⟨rfl, hb3⟩
      replace x0 := (hb3.cell (p := ⟨w.heap.size, 0, none⟩) (by show w.heap.size < w2.heap.size; omega)).trans x0
      replace x1 := (hb3.cell (p := ⟨w.heap.size, 1, none⟩) (by show w.heap.size < w2.heap.size; omega)).trans x1
      replace y0 := (hb3.cell (p := ⟨w.heap.size + 1, 0, none⟩) (by show w.heap.size + 1 < w2.heap.size; omega)).trans y0
      replace y1 := (hb3.cell (p := ⟨w.heap.size + 1, 1, none⟩) (by show w.heap.size + 1 < w2.heap.size; omega)).trans y1
      replace z0 := (hb3.cell (p := ⟨w.heap.size + 1 + 1, 0, none⟩) (by show w.heap.size + 1 + 1 < w2.heap.size; omega)).trans z0
      replace z1 := (hb3.cell (p := ⟨w.heap.size + 1 + 1, 1, none⟩) (by show w.heap.size + 1 + 1 < w2.heap.size; omega)).trans z1
      replace f0 := (hb3.frozen (p := ⟨w.heap.size + 1 + 1, 0, none⟩) (by show w.heap.size + 1 + 1 < w2.heap.size; omega)).trans f0
      replace f1 := (hb3.frozen (p := ⟨w.heap.size + 1 + 1, 1, none⟩) (by show w.heap.size + 1 + 1 < w2.heap.size; omega)).trans f1
      have hs3 : w.heap.size + 3 ≤ w3.heap.size := by have := hb3.size; omega
      have hw3 : Below w.heap.size w w3 := hw2.trans (hb3.mono hw2.size)
      clear hb3 hw2
      go_wp2_with fail
      refine (fits_any _ _ _).mono ?_
      rintro e w4 ⟨rfl, hb4⟩
      replace x0 := (hb4.cell (p := ⟨w.heap.size, 0, none⟩) (by show w.heap.size < w3.heap.size; omega)).trans x0
      replace x1 := (hb4.cell (p := ⟨w.heap.size, 1, none⟩) (by show w.heap.size < w3.heap.size; omega)).trans x1
      replace y0 := (hb4.cell (p := ⟨w.heap.size + 1, 0, none⟩) (by show w.heap.size + 1 < w3.heap.size; omega)).trans y0
      replace y1 := (hb4.cell (p := ⟨w.heap.size + 1, 1, none⟩) (by show w.heap.size + 1 < w3.heap.size; omega)).trans y1
      replace z0 := (hb4.cell (p := ⟨w.heap.size + 1 + 1, 0, none⟩) (by show w.heap.size + 1 + 1 < w3.heap.size; omega)).trans z0
      replace z1 := (hb4.cell (p := ⟨w.heap.size + 1 + 1, 1, none⟩) (by show w.heap.size + 1 + 1 < w3.heap.size; omega)).trans z1
      replace f0 := (hb4.frozen (p := ⟨w.heap.size + 1 + 1, 0, none⟩) (by show w.heap.size + 1 + 1 < w3.heap.size; omega)).trans f0
      replace f1 := (hb4.frozen (p := ⟨w.heap.size + 1 + 1, 1, none⟩) (by show w.heap.size + 1 + 1 < w3.heap.size; omega)).trans f1
      have hs4 : w.heap.size + 3 ≤ w4.heap.size := by have := hb4.size; omega
      have hw4 : Below w.heap.size w w4 := hw3.trans (hb4.mono hw3.size)
      clear hb4 hw3
      go_wp2_with fail
      refine bodyPost_ret (v := .tuple #[.agg #[.int .i64 (fits (redT (t * c + u * b) (b * c)) (redB (t * c + u * b) (b * c))).1, .int .i64 (fits (redT (t * c + u * b) (b * c)) (redB (t * c + u * b) (b * c))).2.1], .int .i64 (fits (redT (t * c + u * b) (b * c)) (redB (t * c + u * b) (b * c))).2.2]) (by simp [results, Tryd.results6, go_sem, z0, z1]) rfl ⟨by rw [Hn.out], ?_⟩
      go_grown
set_option maxHeartbeats 1600000 in
theorem MultiplyFractions_any (t b u c : Int) (w : World) : Calls Tryd.prog 8 #[.agg #[.int .i64 t, .int .i64 b], .agg #[.int .i64 u, .int .i64 c]] w fun e w' => e = .returned (.tuple #[.agg #[.int .i64 (mulF t b u c).1, .int .i64 (mulF t b u c).2.1], .int .i64 (mulF t b u c).2.2]) ∧ Below w.heap.size w w' := by
  cases hA : isFr t b
  · have Hn := Lib.hid (show mulF t b u c = (0, 0, 1) by unfold mulF; rw [hA]; rfl)
    go_enter Tryd.func8, Tryd.ntmps8
    go_wp2_with fail
    refine (isFraction_any _ _ _).mono ?_
    rintro e w1 ⟨rfl, hb1⟩
    rw [hA]
    have x0 := (hb1.cell (p := ⟨w.heap.size, 0, none⟩) (by simp; try omega)).trans (by simp [go_sem] : _ = some (Value.int .i64 t))
    have x1 := (hb1.cell (p := ⟨w.heap.size, 1, none⟩) (by simp; try omega)).trans (by simp [go_sem] : _ = some (Value.int .i64 b))
    have y0 := (hb1.cell (p := ⟨w.heap.size + 1, 0, none⟩) (by simp; try omega)).trans (by simp [go_sem] : _ = some (Value.int .i64 u))
    have y1 := (hb1.cell (p := ⟨w.heap.size + 1, 1, none⟩) (by simp; try omega)).trans (by simp [go_sem] : _ = some (Value.int .i64 c))
    have z0 := (hb1.cell (p := ⟨w.heap.size + 1 + 1, 0, none⟩) (by simp; try omega)).trans (by simp [go_sem] : _ = some (Value.int .i64 0))
    have z1 := (hb1.cell (p := ⟨w.heap.size + 1 + 1, 1, none⟩) (by simp; try omega)).trans (by simp [go_sem] : _ = some (Value.int .i64 0))
    have f0 := (hb1.frozen (p := ⟨w.heap.size + 1 + 1, 0, none⟩) (by simp; try omega)).trans (by simp [go_sem] : _ = false)
    have f1 := (hb1.frozen (p := ⟨w.heap.size + 1 + 1, 1, none⟩) (by simp; try omega)).trans (by simp [go_sem] : _ = false)
    have hs1 : w.heap.size + 3 ≤ w1.heap.size := by have := hb1.size; simp at this; omega
    have hw1 : Below w.heap.size w w1 := ((((Below.refl _ _).alloc (Nat.le_refl _) _).alloc (by simp) _).alloc (by simp; omega) _).trans (hb1.mono (by simp; omega))
    clear hb1
    go_wp2_with fail
    refine bodyPost_ret (v := .tuple #[.agg #[.int .i64 0, .int .i64 0], .int .i64 1]) (by simp [results, Tryd.results8, go_sem, z0, z1]) rfl ⟨by rw [Hn.out], ?_⟩
    go_grown
  · have bA := isFr_bd hA
    cases hB : isFr u c
    · have Hn := Lib.hid (show mulF t b u c = (0, 0, 1) by unfold mulF; rw [hA, hB]; rfl)
      go_enter Tryd.func8, Tryd.ntmps8
      go_wp2_with fail
      refine (isFraction_any _ _ _).mono ?_
      rintro e w1 ⟨rfl, hb1⟩
      rw [hA]
      have x0 := (hb1.cell (p := ⟨w.heap.size, 0, none⟩) (by simp; try omega)).trans (by simp [go_sem] : _ = some (Value.int .i64 t))
      have x1 := (hb1.cell (p := ⟨w.heap.size, 1, none⟩) (by simp; try omega)).trans (by simp [go_sem] : _ = some (Value.int .i64 b))
      have y0 := (hb1.cell (p := ⟨w.heap.size + 1, 0, none⟩) (by simp; try omega)).trans (by simp [go_sem] : _ = some (Value.int .i64 u))
      have y1 := (hb1.cell (p := ⟨w.heap.size + 1, 1, none⟩) (by simp; try omega)).trans (by simp [go_sem] : _ = some (Value.int .i64 c))
      have z0 := (hb1.cell (p := ⟨w.heap.size + 1 + 1, 0, none⟩) (by simp; try omega)).trans (by simp [go_sem] : _ = some (Value.int .i64 0))
      have z1 := (hb1.cell (p := ⟨w.heap.size + 1 + 1, 1, none⟩) (by simp; try omega)).trans (by simp [go_sem] : _ = some (Value.int .i64 0))
      have f0 := (hb1.frozen (p := ⟨w.heap.size + 1 + 1, 0, none⟩) (by simp; try omega)).trans (by simp [go_sem] : _ = false)
      have f1 := (hb1.frozen (p := ⟨w.heap.size + 1 + 1, 1, none⟩) (by simp; try omega)).trans (by simp [go_sem] : _ = false)
      have hs1 : w.heap.size + 3 ≤ w1.heap.size := by have := hb1.size; simp at this; omega
      have hw1 : Below w.heap.size w w1 := ((((Below.refl _ _).alloc (Nat.le_refl _) _).alloc (by simp) _).alloc (by simp; omega) _).trans (hb1.mono (by simp; omega))
      clear hb1
      go_wp2_with fail
      refine (isFraction_any _ _ _).mono ?_
      rintro e w2 ⟨rfl, hb2⟩
      rw [hB]
      replace x0 := (hb2.cell (p := ⟨w.heap.size, 0, none⟩) (by show w.heap.size < w1.heap.size; omega)).trans x0
      replace x1 := (hb2.cell (p := ⟨w.heap.size, 1, none⟩) (by show w.heap.size < w1.heap.size; omega)).trans x1
      replace y0 := (hb2.cell (p := ⟨w.heap.size + 1, 0, none⟩) (by show w.heap.size + 1 < w1.heap.size; omega)).trans y0
      replace y1 := (hb2.cell (p := ⟨w.heap.size + 1, 1, none⟩) (by show w.heap.size + 1 < w1.heap.size; omega)).trans y1
      replace z0 := (hb2.cell (p := ⟨w.heap.size + 1 + 1, 0, none⟩) (by show w.heap.size + 1 + 1 < w1.heap.size; omega)).trans z0
      replace z1 := (hb2.cell (p := ⟨w.heap.size + 1 + 1, 1, none⟩) (by show w.heap.size + 1 + 1 < w1.heap.size; omega)).trans z1
      replace f0 := (hb2.frozen (p := ⟨w.heap.size + 1 + 1, 0, none⟩) (by show w.heap.size + 1 + 1 < w1.heap.size; omega)).trans f0
      replace f1 := (hb2.frozen (p := ⟨w.heap.size + 1 + 1, 1, none⟩) (by show w.heap.size + 1 + 1 < w1.heap.size; omega)).trans f1
      have hs2 : w.heap.size + 3 ≤ w2.heap.size := by have := hb2.size; omega
      have hw2 : Below w.heap.size w w2 := hw1.trans (hb2.mono hw1.size)
      clear hb2 hw1
      go_wp2_with fail
      refine bodyPost_ret (v := .tuple #[.agg #[.int .i64 0, .int .i64 0], .int .i64 1]) (by simp [results, Tryd.results8, go_sem, z0, z1]) rfl ⟨by rw [Hn.out], ?_⟩
      go_grown
    · have bB := isFr_bd hB
      have Hn := Lib.hid (show mulF t b u c = fits (redT (t * u) (b * c)) (redB (t * u) (b * c)) by unfold mulF; rw [hA, hB]; rfl)
      have m1 := mul_bd2 t c (by omega) (by omega) (by omega) (by omega)
      have m2 := mul_bd2 u b (by omega) (by omega) (by omega) (by omega)
      have m3 := mul_bd2 b c (by omega) (by omega) (by omega) (by omega)
      have m5 := mul_bd2 t u (by omega) (by omega) (by omega) (by omega)
      have m4 := mul_pos2 b c (by omega) (by omega)
      go_enter Tryd.func8, Tryd.ntmps8
      go_wp2_with fail
      refine (isFraction_any _ _ _).mono ?_
      rintro e w1 ⟨rfl, hb1⟩
      rw [hA]
      have x0 := (hb1.cell (p := ⟨w.heap.size, 0, none⟩) (by simp; try omega)).trans (by simp [go_sem] : _ = some (Value.int .i64 t))
      have x1 := (hb1.cell (p := ⟨w.heap.size, 1, none⟩) (by simp; try omega)).trans (by simp [go_sem] : _ = some (Value.int .i64 b))
      have y0 := (hb1.cell (p := ⟨w.heap.size + 1, 0, none⟩) (by simp; try omega)).trans (by simp [go_sem] : _ = some (Value.int .i64 u))
      have y1 := (hb1.cell (p := ⟨w.heap.size + 1, 1, none⟩) (by simp; try omega)).trans (by simp [go_sem] : _ = some (Value.int .i64 c))
      have z0 := (hb1.cell (p := ⟨w.heap.size + 1 + 1, 0, none⟩) (by simp; try omega)).trans (by simp [go_sem] : _ = some (Value.int .i64 0))
      have z1 := (hb1.cell (p := ⟨w.heap.size + 1 + 1, 1, none⟩) (by simp; try omega)).trans (by simp [go_sem] : _ = some (Value.int .i64 0))
      have f0 := (hb1.frozen (p := ⟨w.heap.size + 1 + 1, 0, none⟩) (by simp; try omega)).trans (by simp [go_sem] : _ = false)
      have f1 := (hb1.frozen (p := ⟨w.heap.size + 1 + 1, 1, none⟩) (by simp; try omega)).trans (by simp [go_sem] : _ = false)
      have hs1 : w.heap.size + 3 ≤ w1.heap.size := by have := hb1.size; simp at this; omega
      have hw1 : Below w.heap.size w w1 := ((((Below.refl _ _).alloc (Nat.le_refl _) _).alloc (by simp) _).alloc (by simp; omega) _).trans (hb1.mono (by simp; omega))
      clear hb1
      go_wp2_with fail
      refine (isFraction_any _ _ _).mono ?_
      rintro e w2 ⟨rfl, hb2⟩
      rw [hB]
      replace x0 := (hb2.cell (p := ⟨w.heap.size, 0, none⟩) (by show w.heap.size < w1.heap.size; omega)).trans x0
      replace x1 := (hb2.cell (p := ⟨w.heap.size, 1, none⟩) (by show w.heap.size < w1.heap.size; omega)).trans x1
      replace y0 := (hb2.cell (p := ⟨w.heap.size + 1, 0, none⟩) (by show w.heap.size + 1 < w1.heap.size; omega)).trans y0
      replace y1 := (hb2.cell (p := ⟨w.heap.size + 1, 1, none⟩) (by show w.heap.size + 1 < w1.heap.size; omega)).trans y1
      replace z0 := (hb2.cell (p := ⟨w.heap.size + 1 + 1, 0, none⟩) (by show w.heap.size + 1 + 1 < w1.heap.size; omega)).trans z0
      replace z1 := (hb2.cell (p := ⟨w.heap.size + 1 + 1, 1, none⟩) (by show w.heap.size + 1 + 1 < w1.heap.size; omega)).trans z1
      replace f0 := (hb2.frozen (p := ⟨w.heap.size + 1 + 1, 0, none⟩) (by show w.heap.size + 1 + 1 < w1.heap.size; omega)).trans f0
      replace f1 := (hb2.frozen (p := ⟨w.heap.size + 1 + 1, 1, none⟩) (by show w.heap.size + 1 + 1 < w1.heap.size; omega)).trans f1
      have hs2 : w.heap.size + 3 ≤ w2.heap.size := by have := hb2.size; omega
      have hw2 : Below w.heap.size w w2 := hw1.trans (hb2.mono hw1.size)
      clear hb2 hw1
      go_wp2_with fail
      refine (reduced_any _ _ _ (by omega) (by omega) (by omega) (by omega) (by omega)).mono ?_
      rintro e w3 ⟨rfl, hb3⟩
      replace x0 := (hb3.cell (p := ⟨w.heap.size, 0, none⟩) (by show w.heap.size < w2.heap.size; omega)).trans x0
      replace x1 := (hb3.cell (p := ⟨w.heap.size, 1, none⟩) (by show w.heap.size < w2.heap.size; omega)).trans x1
      replace y0 := (hb3.cell (p := ⟨w.heap.size + 1, 0, none⟩) (by show w.heap.size + 1 < w2.heap.size; omega)).trans y0
      replace y1 := (hb3.cell (p := ⟨w.heap.size + 1, 1, none⟩) (by show w.heap.size + 1 < w2.heap.size; omega)).trans y1
      replace z0 := (hb3.cell (p := ⟨w.heap.size + 1 + 1, 0, none⟩) (by show w.heap.size + 1 + 1 < w2.heap.size; omega)).trans z0
      replace z1 := (hb3.cell (p := ⟨w.heap.size + 1 + 1, 1, none⟩) (by show w.heap.size + 1 + 1 < w2.heap.size; omega)).trans z1
      replace f0 := (hb3.frozen (p := ⟨w.heap.size + 1 + 1, 0, none⟩) (by show w.heap.size + 1 + 1 < w2.heap.size; omega)).trans f0
      replace f1 := (hb3.frozen (p := ⟨w.heap.size + 1 + 1, 1, none⟩) (by show w.heap.size + 1 + 1 < w2.heap.size; omega)).trans f1
      have hs3 : w.heap.size + 3 ≤ w3.heap.size := by have := hb3.size; omega
      have hw3 : Below w.heap.size w w3 := hw2.trans (hb3.mono hw2.size)
      clear hb3 hw2
      go_wp2_with fail
      refine (fits_any _ _ _).mono ?_
      rintro e w4 ⟨rfl, hb4⟩
      replace x0 := (hb4.cell (p := ⟨w.heap.size, 0, none⟩) (by show w.heap.size < w3.heap.size; omega)).trans x0
      replace x1 := (hb4.cell (p := ⟨w.heap.size, 1, none⟩) (by show w.heap.size < w3.heap.size; omega)).trans x1
      replace y0 := (hb4.cell (p := ⟨w.heap.size + 1, 0, none⟩) (by show w.heap.size + 1 < w3.heap.size; omega)).trans y0
      replace y1 := (hb4.cell (p := ⟨w.heap.size + 1, 1, none⟩) (by show w.heap.size + 1 < w3.heap.size; omega)).trans y1
      replace z0 := (hb4.cell (p := ⟨w.heap.size + 1 + 1, 0, none⟩) (by show w.heap.size + 1 + 1 < w3.heap.size; omega)).trans z0
      replace z1 := (hb4.cell (p := ⟨w.heap.size + 1 + 1, 1, none⟩) (by show w.heap.size + 1 + 1 < w3.heap.size; omega)).trans z1
      replace f0 := (hb4.frozen (p := ⟨w.heap.size + 1 + 1, 0, none⟩) (by show w.heap.size + 1 + 1 < w3.heap.size; omega)).trans f0
      replace f1 := (hb4.frozen (p := ⟨w.heap.size + 1 + 1, 1, none⟩) (by show w.heap.size + 1 + 1 < w3.heap.size; omega)).trans f1
      have hs4 : w.heap.size + 3 ≤ w4.heap.size := by have := hb4.size; omega
      have hw4 : Below w.heap.size w w4 := hw3.trans (hb4.mono hw3.size)
      clear hb4 hw3
      go_wp2_with fail
      refine bodyPost_ret (v := .tuple #[.agg #[.int .i64 (fits (redT (t * u) (b * c)) (redB (t * u) (b * c))).1, .int .i64 (fits (redT (t * u) (b * c)) (redB (t * u) (b * c))).2.1], .int .i64 (fits (redT (t * u) (b * c)) (redB (t * u) (b * c))).2.2]) (by simp [results, Tryd.results8, go_sem, z0, z1]) rfl ⟨by rw [Hn.out], ?_⟩
      go_grown
set_option maxHeartbeats 1600000 in
theorem sAddFractions_any (t b u c : Int) (w : World) : Calls Tryd.prog 7 #[.agg #[.int .i64 t, .int .i64 b], .agg #[.int .i64 u, .int .i64 c]] w fun e w' => e = .returned (.tuple #[.agg #[.int .i64 (addF t b u c).1, .int .i64 (addF t b u c).2.1], .int .i64 (addF t b u c).2.2]) ∧ Below w.heap.size w w' := by
  cases hA : isFr t b
  · have Hn := Lib.hid (show addF t b u c = (0, 0, 1) by unfold addF; rw [hA]; rfl)
    go_enter Tryd.func7, Tryd.ntmps7
    go_wp2_with fail
    refine (l01Fraction_any _ _ _).mono ?_
    rintro e w1 ⟨rfl, hb1⟩
    rw [hA]
    have x0 := (hb1.cell (p := ⟨w.heap.size, 0, none⟩) (by simp; try omega)).trans (by simp [go_sem] : _ = some (Value.int .i64 t))
    have x1 := (hb1.cell (p := ⟨w.heap.size, 1, none⟩) (by simp; try omega)).trans (by simp [go_sem] : _ = some (Value.int .i64 b))
    have y0 := (hb1.cell (p := ⟨w.heap.size + 1, 0, none⟩) (by simp; try omega)).trans (by simp [go_sem] : _ = some (Value.int .i64 u))
    have y1 := (hb1.cell (p := ⟨w.heap.size + 1, 1, none⟩) (by simp; try omega)).trans (by simp [go_sem] : _ = some (Value.int .i64 c))
    have z0 := (hb1.cell (p := ⟨w.heap.size + 1 + 1, 0, none⟩) (by simp; try omega)).trans (by simp [go_sem] : _ = some (Value.int .i64 0))
    have z1 := (hb1.cell (p := ⟨w.heap.size + 1 + 1, 1, none⟩) (by simp; try omega)).trans (by simp [go_sem] : _ = some (Value.int .i64 0))
    have f0 := (hb1.frozen (p := ⟨w.heap.size + 1 + 1, 0, none⟩) (by simp; try omega)).trans (by simp [go_sem] : _ = false)
    have f1 := (hb1.frozen (p := ⟨w.heap.size + 1 + 1, 1, none⟩) (by simp; try omega)).trans (by simp [go_sem] : _ = false)
    have hs1 : w.heap.size + 3 ≤ w1.heap.size := by have := hb1.size; simp at this; omega
    have hw1 : Below w.heap.size w w1 := ((((Below.refl _ _).alloc (Nat.le_refl _) _).alloc (by simp) _).alloc (by simp; omega) _).trans (hb1.mono (by simp; omega))
    clear hb1
    go_wp2_with fail
    refine bodyPost_ret (v := .tuple #[.agg #[.int .i64 0, .int .i64 0], .int .i64 1]) (by simp [results, Tryd.results7, go_sem, z0, z1]) rfl ⟨by rw [Hn.out], ?_⟩
    go_grown
  · have bA := isFr_bd hA
    cases hB : isFr u c
    · have Hn := Lib.hid (show addF t b u c = (0, 0, 1) by unfold addF; rw [hA, hB]; rfl)
      go_enter Tryd.func7, Tryd.ntmps7
      go_wp2_with fail
      refine (l01Fraction_any _ _ _).mono ?_
      rintro e w1 ⟨rfl, hb1⟩
      rw [hA]
      have x0 := (hb1.cell (p := ⟨w.heap.size, 0, none⟩) (by simp; try omega)).trans (by simp [go_sem] : _ = some (Value.int .i64 t))
      have x1 := (hb1.cell (p := ⟨w.heap.size, 1, none⟩) (by simp; try omega)).trans (by simp [go_sem] : _ = some (Value.int .i64 b))
      have y0 := (hb1.cell (p := ⟨w.heap.size + 1, 0, none⟩) (by simp; try omega)).trans (by simp [go_sem] : _ = some (Value.int .i64 u))
      have y1 := (hb1.cell (p := ⟨w.heap.size + 1, 1, none⟩) (by simp; try omega)).trans (by simp [go_sem] : _ = some (Value.int .i64 c))
      have z0 := (hb1.cell (p := ⟨w.heap.size + 1 + 1, 0, none⟩) (by simp; try omega)).trans (by simp [go_sem] : _ = some (Value.int .i64 0))
      have z1 := (hb1.cell (p := ⟨w.heap.size + 1 + 1, 1, none⟩) (by simp; try omega)).trans (by simp [go_sem] : _ = some (Value.int .i64 0))
      have f0 := (hb1.frozen (p := ⟨w.heap.size + 1 + 1, 0, none⟩) (by simp; try omega)).trans (by simp [go_sem] : _ = false)
      have f1 := (hb1.frozen (p := ⟨w.heap.size + 1 + 1, 1, none⟩) (by simp; try omega)).trans (by simp [go_sem] : _ = false)
      have hs1 : w.heap.size + 3 ≤ w1.heap.size := by have := hb1.size; simp at this; omega
      have hw1 : Below w.heap.size w w1 := ((((Below.refl _ _).alloc (Nat.le_refl _) _).alloc (by simp) _).alloc (by simp; omega) _).trans (hb1.mono (by simp; omega))
      clear hb1
      go_wp2_with fail
      refine (l01Fraction_any _ _ _).mono ?_
      rintro e w2 ⟨rfl, hb2⟩
      rw [hB]
      replace x0 := (hb2.cell (p := ⟨w.heap.size, 0, none⟩) (by show w.heap.size < w1.heap.size; omega)).trans x0
      replace x1 := (hb2.cell (p := ⟨w.heap.size, 1, none⟩) (by show w.heap.size < w1.heap.size; omega)).trans x1
      replace y0 := (hb2.cell (p := ⟨w.heap.size + 1, 0, none⟩) (by show w.heap.size + 1 < w1.heap.size; omega)).trans y0
      replace y1 := (hb2.cell (p := ⟨w.heap.size + 1, 1, none⟩) (by show w.heap.size + 1 < w1.heap.size; omega)).trans y1
      replace z0 := (hb2.cell (p := ⟨w.heap.size + 1 + 1, 0, none⟩) (by show w.heap.size + 1 + 1 < w1.heap.size; omega)).trans z0
      replace z1 := (hb2.cell (p := ⟨w.heap.size + 1 + 1, 1, none⟩) (by show w.heap.size + 1 + 1 < w1.heap.size; omega)).trans z1
      replace f0 := (hb2.frozen (p := ⟨w.heap.size + 1 + 1, 0, none⟩) (by show w.heap.size + 1 + 1 < w1.heap.size; omega)).trans f0
      replace f1 := (hb2.frozen (p := ⟨w.heap.size + 1 + 1, 1, none⟩) (by show w.heap.size + 1 + 1 < w1.heap.size; omega)).trans f1
      have hs2 : w.heap.size + 3 ≤ w2.heap.size := by have := hb2.size; omega
      have hw2 : Below w.heap.size w w2 := hw1.trans (hb2.mono hw1.size)
      clear hb2 hw1
      go_wp2_with fail
      refine bodyPost_ret (v := .tuple #[.agg #[.int .i64 0, .int .i64 0], .int .i64 1]) (by simp [results, Tryd.results7, go_sem, z0, z1]) rfl ⟨by rw [Hn.out], ?_⟩
      go_grown
    · have bB := isFr_bd hB
      have Hn := Lib.hid (show addF t b u c = fits (redT (t * c + u * b) (b * c)) (redB (t * c + u * b) (b * c)) by unfold addF; rw [hA, hB]; rfl)
      have m1 := mul_bd2 t c (by omega) (by omega) (by omega) (by omega)
      have m2 := mul_bd2 u b (by omega) (by omega) (by omega) (by omega)
      have m3 := mul_bd2 b c (by omega) (by omega) (by omega) (by omega)
      have m5 := mul_bd2 t u (by omega) (by omega) (by omega) (by omega)
      have m4 := mul_pos2 b c (by omega) (by omega)
      go_enter Tryd.func7, Tryd.ntmps7
      go_wp2_with fail
      refine (l01Fraction_any _ _ _).mono ?_
      rintro e w1 ⟨rfl, hb1⟩
      rw [hA]
      have x0 := (hb1.cell (p := ⟨w.heap.size, 0, none⟩) (by simp; try omega)).trans (by simp [go_sem] : _ = some (Value.int .i64 t))
      have x1 := (hb1.cell (p := ⟨w.heap.size, 1, none⟩) (by simp; try omega)).trans (by simp [go_sem] : _ = some (Value.int .i64 b))
      have y0 := (hb1.cell (p := ⟨w.heap.size + 1, 0, none⟩) (by simp; try omega)).trans (by simp [go_sem] : _ = some (Value.int .i64 u))
      have y1 := (hb1.cell (p := ⟨w.heap.size + 1, 1, none⟩) (by simp; try omega)).trans (by simp [go_sem] : _ = some (Value.int .i64 c))
      have z0 := (hb1.cell (p := ⟨w.heap.size + 1 + 1, 0, none⟩) (by simp; try omega)).trans (by simp [go_sem] : _ = some (Value.int .i64 0))
      have z1 := (hb1.cell (p := ⟨w.heap.size + 1 + 1, 1, none⟩) (by simp; try omega)).trans (by simp [go_sem] : _ = some (Value.int .i64 0))
      have f0 := (hb1.frozen (p := ⟨w.heap.size + 1 + 1, 0, none⟩) (by simp; try omega)).trans (by simp [go_sem] : _ = false)
      have f1 := (hb1.frozen (p := ⟨w.heap.size + 1 + 1, 1, none⟩) (by simp; try omega)).trans (by simp [go_sem] : _ = false)
      have hs1 : w.heap.size + 3 ≤ w1.heap.size := by have := hb1.size; simp at this; omega
      have hw1 : Below w.heap.size w w1 := ((((Below.refl _ _).alloc (Nat.le_refl _) _).alloc (by simp) _).alloc (by simp; omega) _).trans (hb1.mono (by simp; omega))
      clear hb1
      go_wp2_with fail
      refine (l01Fraction_any _ _ _).mono ?_
      rintro e w2 ⟨rfl, hb2⟩
      rw [hB]
      replace x0 := (hb2.cell (p := ⟨w.heap.size, 0, none⟩) (by show w.heap.size < w1.heap.size; omega)).trans x0
      replace x1 := (hb2.cell (p := ⟨w.heap.size, 1, none⟩) (by show w.heap.size < w1.heap.size; omega)).trans x1
      replace y0 := (hb2.cell (p := ⟨w.heap.size + 1, 0, none⟩) (by show w.heap.size + 1 < w1.heap.size; omega)).trans y0
      replace y1 := (hb2.cell (p := ⟨w.heap.size + 1, 1, none⟩) (by show w.heap.size + 1 < w1.heap.size; omega)).trans y1
      replace z0 := (hb2.cell (p := ⟨w.heap.size + 1 + 1, 0, none⟩) (by show w.heap.size + 1 + 1 < w1.heap.size; omega)).trans z0
      replace z1 := (hb2.cell (p := ⟨w.heap.size + 1 + 1, 1, none⟩) (by show w.heap.size + 1 + 1 < w1.heap.size; omega)).trans z1
      replace f0 := (hb2.frozen (p := ⟨w.heap.size + 1 + 1, 0, none⟩) (by show w.heap.size + 1 + 1 < w1.heap.size; omega)).trans f0
      replace f1 := (hb2.frozen (p := ⟨w.heap.size + 1 + 1, 1, none⟩) (by show w.heap.size + 1 + 1 < w1.heap.size; omega)).trans f1
      have hs2 : w.heap.size + 3 ≤ w2.heap.size := by have := hb2.size; omega
      have hw2 : Below w.heap.size w w2 := hw1.trans (hb2.mono hw1.size)
      clear hb2 hw1
      go_wp2_with fail
      refine (l01Make_any _ _ _ (by omega) (by omega) (by omega) (by omega) (by omega)).mono ?_
      rintro e w3 ⟨rfl, hb3⟩
      replace x0 := (hb3.cell (p := ⟨w.heap.size, 0, none⟩) (by show w.heap.size < w2.heap.size; omega)).trans x0
      replace x1 := (hb3.cell (p := ⟨w.heap.size, 1, none⟩) (by show w.heap.size < w2.heap.size; omega)).trans x1
      replace y0 := (hb3.cell (p := ⟨w.heap.size + 1, 0, none⟩) (by show w.heap.size + 1 < w2.heap.size; omega)).trans y0
      replace y1 := (hb3.cell (p := ⟨w.heap.size + 1, 1, none⟩) (by show w.heap.size + 1 < w2.heap.size; omega)).trans y1
      replace z0 := (hb3.cell (p := ⟨w.heap.size + 1 + 1, 0, none⟩) (by show w.heap.size + 1 + 1 < w2.heap.size; omega)).trans z0
      replace z1 := (hb3.cell (p := ⟨w.heap.size + 1 + 1, 1, none⟩) (by show w.heap.size + 1 + 1 < w2.heap.size; omega)).trans z1
      replace f0 := (hb3.frozen (p := ⟨w.heap.size + 1 + 1, 0, none⟩) (by show w.heap.size + 1 + 1 < w2.heap.size; omega)).trans f0
      replace f1 := (hb3.frozen (p := ⟨w.heap.size + 1 + 1, 1, none⟩) (by show w.heap.size + 1 + 1 < w2.heap.size; omega)).trans f1
      have hs3 : w.heap.size + 3 ≤ w3.heap.size := by have := hb3.size; omega
      have hw3 : Below w.heap.size w w3 := hw2.trans (hb3.mono hw2.size)
      clear hb3 hw2
      go_wp2_with fail
      refine (l01Fit_any _ _ _ (red_coprime _ _ (by omega))).mono ?_
      rintro e w4 ⟨rfl, hb4⟩
      replace x0 := (hb4.cell (p := ⟨w.heap.size, 0, none⟩) (by show w.heap.size < w3.heap.size; omega)).trans x0
      replace x1 := (hb4.cell (p := ⟨w.heap.size, 1, none⟩) (by show w.heap.size < w3.heap.size; omega)).trans x1
      replace y0 := (hb4.cell (p := ⟨w.heap.size + 1, 0, none⟩) (by show w.heap.size + 1 < w3.heap.size; omega)).trans y0
      replace y1 := (hb4.cell (p := ⟨w.heap.size + 1, 1, none⟩) (by show w.heap.size + 1 < w3.heap.size; omega)).trans y1
      replace z0 := (hb4.cell (p := ⟨w.heap.size + 1 + 1, 0, none⟩) (by show w.heap.size + 1 + 1 < w3.heap.size; omega)).trans z0
      replace z1 := (hb4.cell (p := ⟨w.heap.size + 1 + 1, 1, none⟩) (by show w.heap.size + 1 + 1 < w3.heap.size; omega)).trans z1
      replace f0 := (hb4.frozen (p := ⟨w.heap.size + 1 + 1, 0, none⟩) (by show w.heap.size + 1 + 1 < w3.heap.size; omega)).trans f0
      replace f1 := (hb4.frozen (p := ⟨w.heap.size + 1 + 1, 1, none⟩) (by show w.heap.size + 1 + 1 < w3.heap.size; omega)).trans f1
      have hs4 : w.heap.size + 3 ≤ w4.heap.size := by have := hb4.size; omega
      have hw4 : Below w.heap.size w w4 := hw3.trans (hb4.mono hw3.size)
      clear hb4 hw3
      have z0o : ∀ o, (w4.alloc o).cell? ⟨w.heap.size + 1 + 1, 0, none⟩ = some (Value.int .i64 0) := fun o => (((Below.refl w4.heap.size w4).alloc (Nat.le_refl _) o).cell (p := ⟨w.heap.size + 1 + 1, 0, none⟩) (by show w.heap.size + 1 + 1 < w4.heap.size; omega)).trans z0
      have f0o : ∀ o, (w4.alloc o).frozen? ⟨w.heap.size + 1 + 1, 0, none⟩ = false := fun o => (((Below.refl w4.heap.size w4).alloc (Nat.le_refl _) o).frozen (p := ⟨w.heap.size + 1 + 1, 0, none⟩) (by show w.heap.size + 1 + 1 < w4.heap.size; omega)).trans f0
      have z1o : ∀ o, (w4.alloc o).cell? ⟨w.heap.size + 1 + 1, 1, none⟩ = some (Value.int .i64 0) := fun o => (((Below.refl w4.heap.size w4).alloc (Nat.le_refl _) o).cell (p := ⟨w.heap.size + 1 + 1, 1, none⟩) (by show w.heap.size + 1 + 1 < w4.heap.size; omega)).trans z1
      have f1o : ∀ o, (w4.alloc o).frozen? ⟨w.heap.size + 1 + 1, 1, none⟩ = false := fun o => (((Below.refl w4.heap.size w4).alloc (Nat.le_refl _) o).frozen (p := ⟨w.heap.size + 1 + 1, 1, none⟩) (by show w.heap.size + 1 + 1 < w4.heap.size; omega)).trans f1
      go_wp2_with fail
      refine bodyPost_ret (v := .tuple #[.agg #[.int .i64 (fits (redT (t * c + u * b) (b * c)) (redB (t * c + u * b) (b * c))).1, .int .i64 (fits (redT (t * c + u * b) (b * c)) (redB (t * c + u * b) (b * c))).2.1], .int .i64 (fits (redT (t * c + u * b) (b * c)) (redB (t * c + u * b) (b * c))).2.2]) (by simp [results, Tryd.results7, go_sem, z0o, z1o]) rfl ⟨by rw [Hn.out], ?_⟩
      go_grown
set_option maxHeartbeats 1600000 in
theorem sMultiplyFractions_any (t b u c : Int) (w : World) : Calls Tryd.prog 9 #[.agg #[.int .i64 t, .int .i64 b], .agg #[.int .i64 u, .int .i64 c]] w fun e w' => e = .returned (.tuple #[.agg #[.int .i64 (mulF t b u c).1, .int .i64 (mulF t b u c).2.1], .int .i64 (mulF t b u c).2.2]) ∧ Below w.heap.size w w' := by
  cases hA : isFr t b
  · have Hn := Lib.hid (show mulF t b u c = (0, 0, 1) by unfold mulF; rw [hA]; rfl)
    go_enter Tryd.func9, Tryd.ntmps9
    go_wp2_with fail
    refine (l01Fraction_any _ _ _).mono ?_
    rintro e w1 ⟨rfl, hb1⟩
    rw [hA]
    have x0 := (hb1.cell (p := ⟨w.heap.size, 0, none⟩) (by simp; try omega)).trans (by simp [go_sem] : _ = some (Value.int .i64 t))
    have x1 := (hb1.cell (p := ⟨w.heap.size, 1, none⟩) (by simp; try omega)).trans (by simp [go_sem] : _ = some (Value.int .i64 b))
    have y0 := (hb1.cell (p := ⟨w.heap.size + 1, 0, none⟩) (by simp; try omega)).trans (by simp [go_sem] : _ = some (Value.int .i64 u))
    have y1 := (hb1.cell (p := ⟨w.heap.size + 1, 1, none⟩) (by simp; try omega)).trans (by simp [go_sem] : _ = some (Value.int .i64 c))
    have z0 := (hb1.cell (p := ⟨w.heap.size + 1 + 1, 0, none⟩) (by simp; try omega)).trans (by simp [go_sem] : _ = some (Value.int .i64 0))
    have z1 := (hb1.cell (p := ⟨w.heap.size + 1 + 1, 1, none⟩) (by simp; try omega)).trans (by simp [go_sem] : _ = some (Value.int .i64 0))
    have f0 := (hb1.frozen (p := ⟨w.heap.size + 1 + 1, 0, none⟩) (by simp; try omega)).trans (by simp [go_sem] : _ = false)
    have f1 := (hb1.frozen (p := ⟨w.heap.size + 1 + 1, 1, none⟩) (by simp; try omega)).trans (by simp [go_sem] : _ = false)
    have hs1 : w.heap.size + 3 ≤ w1.heap.size := by have := hb1.size; simp at this; omega
    have hw1 : Below w.heap.size w w1 := ((((Below.refl _ _).alloc (Nat.le_refl _) _).alloc (by simp) _).alloc (by simp; omega) _).trans (hb1.mono (by simp; omega))
    clear hb1
    go_wp2_with fail
    refine bodyPost_ret (v := .tuple #[.agg #[.int .i64 0, .int .i64 0], .int .i64 1]) (by simp [results, Tryd.results9, go_sem, z0, z1]) rfl ⟨by rw [Hn.out], ?_⟩
    go_grown
  · have bA := isFr_bd hA
    cases hB : isFr u c
    · have Hn := Lib.hid (show mulF t b u c = (0, 0, 1) by unfold mulF; rw [hA, hB]; rfl)
      go_enter Tryd.func9, Tryd.ntmps9
      go_wp2_with fail
      refine (l01Fraction_any _ _ _).mono ?_
      rintro e w1 ⟨rfl, hb1⟩
      rw [hA]
      have x0 := (hb1.cell (p := ⟨w.heap.size, 0, none⟩) (by simp; try omega)).trans (by simp [go_sem] : _ = some (Value.int .i64 t))
      have x1 := (hb1.cell (p := ⟨w.heap.size, 1, none⟩) (by simp; try omega)).trans (by simp [go_sem] : _ = some (Value.int .i64 b))
      have y0 := (hb1.cell (p := ⟨w.heap.size + 1, 0, none⟩) (by simp; try omega)).trans (by simp [go_sem] : _ = some (Value.int .i64 u))
      have y1 := (hb1.cell (p := ⟨w.heap.size + 1, 1, none⟩) (by simp; try omega)).trans (by simp [go_sem] : _ = some (Value.int .i64 c))
      have z0 := (hb1.cell (p := ⟨w.heap.size + 1 + 1, 0, none⟩) (by simp; try omega)).trans (by simp [go_sem] : _ = some (Value.int .i64 0))
      have z1 := (hb1.cell (p := ⟨w.heap.size + 1 + 1, 1, none⟩) (by simp; try omega)).trans (by simp [go_sem] : _ = some (Value.int .i64 0))
      have f0 := (hb1.frozen (p := ⟨w.heap.size + 1 + 1, 0, none⟩) (by simp; try omega)).trans (by simp [go_sem] : _ = false)
      have f1 := (hb1.frozen (p := ⟨w.heap.size + 1 + 1, 1, none⟩) (by simp; try omega)).trans (by simp [go_sem] : _ = false)
      have hs1 : w.heap.size + 3 ≤ w1.heap.size := by have := hb1.size; simp at this; omega
      have hw1 : Below w.heap.size w w1 := ((((Below.refl _ _).alloc (Nat.le_refl _) _).alloc (by simp) _).alloc (by simp; omega) _).trans (hb1.mono (by simp; omega))
      clear hb1
      go_wp2_with fail
      refine (l01Fraction_any _ _ _).mono ?_
      rintro e w2 ⟨rfl, hb2⟩
      rw [hB]
      replace x0 := (hb2.cell (p := ⟨w.heap.size, 0, none⟩) (by show w.heap.size < w1.heap.size; omega)).trans x0
      replace x1 := (hb2.cell (p := ⟨w.heap.size, 1, none⟩) (by show w.heap.size < w1.heap.size; omega)).trans x1
      replace y0 := (hb2.cell (p := ⟨w.heap.size + 1, 0, none⟩) (by show w.heap.size + 1 < w1.heap.size; omega)).trans y0
      replace y1 := (hb2.cell (p := ⟨w.heap.size + 1, 1, none⟩) (by show w.heap.size + 1 < w1.heap.size; omega)).trans y1
      replace z0 := (hb2.cell (p := ⟨w.heap.size + 1 + 1, 0, none⟩) (by show w.heap.size + 1 + 1 < w1.heap.size; omega)).trans z0
      replace z1 := (hb2.cell (p := ⟨w.heap.size + 1 + 1, 1, none⟩) (by show w.heap.size + 1 + 1 < w1.heap.size; omega)).trans z1
      replace f0 := (hb2.frozen (p := ⟨w.heap.size + 1 + 1, 0, none⟩) (by show w.heap.size + 1 + 1 < w1.heap.size; omega)).trans f0
      replace f1 := (hb2.frozen (p := ⟨w.heap.size + 1 + 1, 1, none⟩) (by show w.heap.size + 1 + 1 < w1.heap.size; omega)).trans f1
      have hs2 : w.heap.size + 3 ≤ w2.heap.size := by have := hb2.size; omega
      have hw2 : Below w.heap.size w w2 := hw1.trans (hb2.mono hw1.size)
      clear hb2 hw1
      go_wp2_with fail
      refine bodyPost_ret (v := .tuple #[.agg #[.int .i64 0, .int .i64 0], .int .i64 1]) (by simp [results, Tryd.results9, go_sem, z0, z1]) rfl ⟨by rw [Hn.out], ?_⟩
      go_grown
    · have bB := isFr_bd hB
      have Hn := Lib.hid (show mulF t b u c = fits (redT (t * u) (b * c)) (redB (t * u) (b * c)) by unfold mulF; rw [hA, hB]; rfl)
      have m1 := mul_bd2 t c (by omega) (by omega) (by omega) (by omega)
      have m2 := mul_bd2 u b (by omega) (by omega) (by omega) (by omega)
      have m3 := mul_bd2 b c (by omega) (by omega) (by omega) (by omega)
      have m5 := mul_bd2 t u (by omega) (by omega) (by omega) (by omega)
      have m4 := mul_pos2 b c (by omega) (by omega)
      go_enter Tryd.func9, Tryd.ntmps9
      go_wp2_with fail
      refine (l01Fraction_any _ _ _).mono ?_
      rintro e w1 ⟨rfl, hb1⟩
      rw [hA]
      have x0 := (hb1.cell (p := ⟨w.heap.size, 0, none⟩) (by simp; try omega)).trans (by simp [go_sem] : _ = some (Value.int .i64 t))
      have x1 := (hb1.cell (p := ⟨w.heap.size, 1, none⟩) (by simp; try omega)).trans (by simp [go_sem] : _ = some (Value.int .i64 b))
      have y0 := (hb1.cell (p := ⟨w.heap.size + 1, 0, none⟩) (by simp; try omega)).trans (by simp [go_sem] : _ = some (Value.int .i64 u))
      have y1 := (hb1.cell (p := ⟨w.heap.size + 1, 1, none⟩) (by simp; try omega)).trans (by simp [go_sem] : _ = some (Value.int .i64 c))
      have z0 := (hb1.cell (p := ⟨w.heap.size + 1 + 1, 0, none⟩) (by simp; try omega)).trans (by simp [go_sem] : _ = some (Value.int .i64 0))
      have z1 := (hb1.cell (p := ⟨w.heap.size + 1 + 1, 1, none⟩) (by simp; try omega)).trans (by simp [go_sem] : _ = some (Value.int .i64 0))
      have f0 := (hb1.frozen (p := ⟨w.heap.size + 1 + 1, 0, none⟩) (by simp; try omega)).trans (by simp [go_sem] : _ = false)
      have f1 := (hb1.frozen (p := ⟨w.heap.size + 1 + 1, 1, none⟩) (by simp; try omega)).trans (by simp [go_sem] : _ = false)
      have hs1 : w.heap.size + 3 ≤ w1.heap.size := by have := hb1.size; simp at this; omega
      have hw1 : Below w.heap.size w w1 := ((((Below.refl _ _).alloc (Nat.le_refl _) _).alloc (by simp) _).alloc (by simp; omega) _).trans (hb1.mono (by simp; omega))
      clear hb1
      go_wp2_with fail
      refine (l01Fraction_any _ _ _).mono ?_
      rintro e w2 ⟨rfl, hb2⟩
      rw [hB]
      replace x0 := (hb2.cell (p := ⟨w.heap.size, 0, none⟩) (by show w.heap.size < w1.heap.size; omega)).trans x0
      replace x1 := (hb2.cell (p := ⟨w.heap.size, 1, none⟩) (by show w.heap.size < w1.heap.size; omega)).trans x1
      replace y0 := (hb2.cell (p := ⟨w.heap.size + 1, 0, none⟩) (by show w.heap.size + 1 < w1.heap.size; omega)).trans y0
      replace y1 := (hb2.cell (p := ⟨w.heap.size + 1, 1, none⟩) (by show w.heap.size + 1 < w1.heap.size; omega)).trans y1
      replace z0 := (hb2.cell (p := ⟨w.heap.size + 1 + 1, 0, none⟩) (by show w.heap.size + 1 + 1 < w1.heap.size; omega)).trans z0
      replace z1 := (hb2.cell (p := ⟨w.heap.size + 1 + 1, 1, none⟩) (by show w.heap.size + 1 + 1 < w1.heap.size; omega)).trans z1
      replace f0 := (hb2.frozen (p := ⟨w.heap.size + 1 + 1, 0, none⟩) (by show w.heap.size + 1 + 1 < w1.heap.size; omega)).trans f0
      replace f1 := (hb2.frozen (p := ⟨w.heap.size + 1 + 1, 1, none⟩) (by show w.heap.size + 1 + 1 < w1.heap.size; omega)).trans f1
      have hs2 : w.heap.size + 3 ≤ w2.heap.size := by have := hb2.size; omega
      have hw2 : Below w.heap.size w w2 := hw1.trans (hb2.mono hw1.size)
      clear hb2 hw1
      go_wp2_with fail
      refine (l01Make_any _ _ _ (by omega) (by omega) (by omega) (by omega) (by omega)).mono ?_
      rintro e w3 ⟨rfl, hb3⟩
      replace x0 := (hb3.cell (p := ⟨w.heap.size, 0, none⟩) (by show w.heap.size < w2.heap.size; omega)).trans x0
      replace x1 := (hb3.cell (p := ⟨w.heap.size, 1, none⟩) (by show w.heap.size < w2.heap.size; omega)).trans x1
      replace y0 := (hb3.cell (p := ⟨w.heap.size + 1, 0, none⟩) (by show w.heap.size + 1 < w2.heap.size; omega)).trans y0
      replace y1 := (hb3.cell (p := ⟨w.heap.size + 1, 1, none⟩) (by show w.heap.size + 1 < w2.heap.size; omega)).trans y1
      replace z0 := (hb3.cell (p := ⟨w.heap.size + 1 + 1, 0, none⟩) (by show w.heap.size + 1 + 1 < w2.heap.size; omega)).trans z0
      replace z1 := (hb3.cell (p := ⟨w.heap.size + 1 + 1, 1, none⟩) (by show w.heap.size + 1 + 1 < w2.heap.size; omega)).trans z1
      replace f0 := (hb3.frozen (p := ⟨w.heap.size + 1 + 1, 0, none⟩) (by show w.heap.size + 1 + 1 < w2.heap.size; omega)).trans f0
      replace f1 := (hb3.frozen (p := ⟨w.heap.size + 1 + 1, 1, none⟩) (by show w.heap.size + 1 + 1 < w2.heap.size; omega)).trans f1
      have hs3 : w.heap.size + 3 ≤ w3.heap.size := by have := hb3.size; omega
      have hw3 : Below w.heap.size w w3 := hw2.trans (hb3.mono hw2.size)
      clear hb3 hw2
      go_wp2_with fail
      refine (l01Fit_any _ _ _ (red_coprime _ _ (by omega))).mono ?_
      rintro e w4 ⟨rfl, hb4⟩
      replace x0 := (hb4.cell (p := ⟨w.heap.size, 0, none⟩) (by show w.heap.size < w3.heap.size; omega)).trans x0
      replace x1 := (hb4.cell (p := ⟨w.heap.size, 1, none⟩) (by show w.heap.size < w3.heap.size; omega)).trans x1
      replace y0 := (hb4.cell (p := ⟨w.heap.size + 1, 0, none⟩) (by show w.heap.size + 1 < w3.heap.size; omega)).trans y0
      replace y1 := (hb4.cell (p := ⟨w.heap.size + 1, 1, none⟩) (by show w.heap.size + 1 < w3.heap.size; omega)).trans y1
      replace z0 := (hb4.cell (p := ⟨w.heap.size + 1 + 1, 0, none⟩) (by show w.heap.size + 1 + 1 < w3.heap.size; omega)).trans z0
      replace z1 := (hb4.cell (p := ⟨w.heap.size + 1 + 1, 1, none⟩) (by show w.heap.size + 1 + 1 < w3.heap.size; omega)).trans z1
      replace f0 := (hb4.frozen (p := ⟨w.heap.size + 1 + 1, 0, none⟩) (by show w.heap.size + 1 + 1 < w3.heap.size; omega)).trans f0
      replace f1 := (hb4.frozen (p := ⟨w.heap.size + 1 + 1, 1, none⟩) (by show w.heap.size + 1 + 1 < w3.heap.size; omega)).trans f1
      have hs4 : w.heap.size + 3 ≤ w4.heap.size := by have := hb4.size; omega
      have hw4 : Below w.heap.size w w4 := hw3.trans (hb4.mono hw3.size)
      clear hb4 hw3
      have z0o : ∀ o, (w4.alloc o).cell? ⟨w.heap.size + 1 + 1, 0, none⟩ = some (Value.int .i64 0) := fun o => (((Below.refl w4.heap.size w4).alloc (Nat.le_refl _) o).cell (p := ⟨w.heap.size + 1 + 1, 0, none⟩) (by show w.heap.size + 1 + 1 < w4.heap.size; omega)).trans z0
      have f0o : ∀ o, (w4.alloc o).frozen? ⟨w.heap.size + 1 + 1, 0, none⟩ = false := fun o => (((Below.refl w4.heap.size w4).alloc (Nat.le_refl _) o).frozen (p := ⟨w.heap.size + 1 + 1, 0, none⟩) (by show w.heap.size + 1 + 1 < w4.heap.size; omega)).trans f0
      have z1o : ∀ o, (w4.alloc o).cell? ⟨w.heap.size + 1 + 1, 1, none⟩ = some (Value.int .i64 0) := fun o => (((Below.refl w4.heap.size w4).alloc (Nat.le_refl _) o).cell (p := ⟨w.heap.size + 1 + 1, 1, none⟩) (by show w.heap.size + 1 + 1 < w4.heap.size; omega)).trans z1
      have f1o : ∀ o, (w4.alloc o).frozen? ⟨w.heap.size + 1 + 1, 1, none⟩ = false := fun o => (((Below.refl w4.heap.size w4).alloc (Nat.le_refl _) o).frozen (p := ⟨w.heap.size + 1 + 1, 1, none⟩) (by show w.heap.size + 1 + 1 < w4.heap.size; omega)).trans f1
      go_wp2_with fail
      refine bodyPost_ret (v := .tuple #[.agg #[.int .i64 (fits (redT (t * u) (b * c)) (redB (t * u) (b * c))).1, .int .i64 (fits (redT (t * u) (b * c)) (redB (t * u) (b * c))).2.1], .int .i64 (fits (redT (t * u) (b * c)) (redB (t * u) (b * c))).2.2]) (by simp [results, Tryd.results9, go_sem, z0o, z1o]) rfl ⟨by rw [Hn.out], ?_⟩
      go_grown
end WA
end Go.Proofs.YtdgjjmkpninnoaaDoor
