/-
  WALKS, CHAPTER 1: fractions in lowest terms.
-/
import Derived.Test.YtdgjjmkpninnoaaDoorWlkA2
import Derived.RegionTactic
import Derived.BigRegion
namespace Go.Proofs.YtdgjjmkpninnoaaDoor
open Go.RowKit
set_option linter.unusedVariables false
namespace WA
open K Pl

/-- A function that returns one fraction. -/
def Fr1 (t b : Int) (w : World) (e : Ending) (w' : World) : Prop := e = .returned (.agg #[.int .i64 t, .int .i64 b]) ∧ Below w.heap.size w w'

set_option maxHeartbeats 800000 in
theorem reduced_any (a b : Int) (w : World) (ha : -9223372036854775807 ≤ a) (ha' : a ≤ 9223372036854775807) (hb : -9223372036854775807 ≤ b) (hb' : b ≤ 9223372036854775807) (h0 : b ≠ 0) :
    Calls Tryd.prog 26 #[.int .i64 a, .int .i64 b] w (Fr1 (redT a b) (redB a b) w) := by
  have hg := gcdI_le a b h0 hb hb'
  have Hs := Lib.hid (gcdI_sgn a b)
  have HT := Lib.hid (show redT a b = (sgn a b).tdiv (gcdI a b) from rfl)
  have HB := Lib.hid (redB_eq a b h0)
  have hx := sgn_bd a b ha ha'
  have hy := sgn_bd b b hb hb'
  have hy0 := sgn_self_pos b h0
  have H1 := Lib.hid (show b < 0 → sgn a b = -a ∧ sgn b b = -b from fun h => by unfold sgn; rw [if_pos h]; exact ⟨rfl, if_pos h⟩)
  have H2 := Lib.hid (show ¬ b < 0 → sgn a b = a ∧ sgn b b = b from fun h => by unfold sgn; rw [if_neg h]; exact ⟨rfl, if_neg h⟩)
  generalize sgn a b = x at *
  generalize sgn b b = y at *
  clear h0
  by_cases hneg : b < 0
  · obtain ⟨e1, e2⟩ := H1.out hneg
    have E1 := Lib.hid e1; have E2 := Lib.hid e2
    clear e1 e2 H1 H2
    go_enter Tryd.func26, Tryd.ntmps26
    go_wp2_with fail
    rw [← E1.out, ← E2.out]
    refine (divisor_any _ _ _ (by omega) (by omega) (by omega) (by omega)).mono ?_
    rintro e w1 ⟨rfl, hb1⟩
    rw [Hs.out]
    have c0 := (hb1.cell (p := ⟨w.heap.size, 0, none⟩) (by simp)).trans (by simp [go_sem] : _ = some (Value.int .i64 0))
    have c1 := (hb1.cell (p := ⟨w.heap.size, 1, none⟩) (by simp)).trans (by simp [go_sem] : _ = some (Value.int .i64 0))
    have f0 := (hb1.frozen (p := ⟨w.heap.size, 0, none⟩) (by simp)).trans (by simp [go_sem] : _ = false)
    have f1 := (hb1.frozen (p := ⟨w.heap.size, 1, none⟩) (by simp)).trans (by simp [go_sem] : _ = false)
    have hz : w.heap.size + 1 ≤ w1.heap.size := by have := hb1.size; simp at this; omega
    have Hb1 := Lib.hid hb1; clear hb1
    have Q1 := IntWalk.i64_quo' x (gcdI a b) (by omega)
    have Q2 := IntWalk.i64_quo y (gcdI a b) (by omega)
    clear E1 E2
    go_wp2_with fail
    go_region
    go_wp2
    refine bodyPost_ret (v := .agg #[.int .i64 (x.tdiv (gcdI a b)), .int .i64 (y / gcdI a b)]) (by simp [results, Tryd.results26, go_sem, c0, c1]) rfl ⟨by rw [HT.out, HB.out], ?_⟩
    have hw1 : Below w.heap.size w w1 := ((Below.refl _ _).alloc (Nat.le_refl _) _).trans (Hb1.out.mono (by simp))
    go_grown
  · obtain ⟨e1, e2⟩ := H2.out hneg
    subst e1 e2
    clear H1 H2
    go_enter Tryd.func26, Tryd.ntmps26
    go_wp2_with fail
    refine (divisor_any _ _ _ (by omega) (by omega) (by omega) (by omega)).mono ?_
    rintro e w1 ⟨rfl, hb1⟩
    have c0 := (hb1.cell (p := ⟨w.heap.size, 0, none⟩) (by simp)).trans (by simp [go_sem] : _ = some (Value.int .i64 0))
    have c1 := (hb1.cell (p := ⟨w.heap.size, 1, none⟩) (by simp)).trans (by simp [go_sem] : _ = some (Value.int .i64 0))
    have f0 := (hb1.frozen (p := ⟨w.heap.size, 0, none⟩) (by simp)).trans (by simp [go_sem] : _ = false)
    have f1 := (hb1.frozen (p := ⟨w.heap.size, 1, none⟩) (by simp)).trans (by simp [go_sem] : _ = false)
    have hz : w.heap.size + 1 ≤ w1.heap.size := by have := hb1.size; simp at this; omega
    have Hb1 := Lib.hid hb1; clear hb1
    have Q1 := IntWalk.i64_quo' x (gcdI x y) (by omega)
    have Q2 := IntWalk.i64_quo y (gcdI x y) (by omega)
    go_wp2_with fail
    go_region
    go_wp2
    refine bodyPost_ret (v := .agg #[.int .i64 (x.tdiv (gcdI x y)), .int .i64 (y / gcdI x y)]) (by simp [results, Tryd.results26, go_sem, c0, c1]) rfl ⟨by rw [HT.out, HB.out], ?_⟩
    have hw1 : Below w.heap.size w w1 := ((Below.refl _ _).alloc (Nat.le_refl _) _).trans (Hb1.out.mono (by simp))
    go_grown
set_option maxHeartbeats 800000 in
theorem l01Make_any (a b : Int) (w : World) (ha : -9223372036854775807 ≤ a) (ha' : a ≤ 9223372036854775807) (hb : -9223372036854775807 ≤ b) (hb' : b ≤ 9223372036854775807) (h0 : b ≠ 0) :
    Calls Tryd.prog 29 #[.int .i64 a, .int .i64 b] w (Fr1 (redT a b) (redB a b) w) := by
  have hg := gcdI_le a b h0 hb hb'
  by_cases hneg : b < 0
  · have T1 := IntWalk.i64_quo' a (gcdI a b) (by omega)
    have T2 := IntWalk.i64_quo' b (gcdI a b) (by omega)
    have e1 := redT_neg a b hneg
    have e2 := redB_neg a b hneg
    have bd := tdiv_bd a (gcdI a b) (by omega) (by omega) (by omega)
    have bd2 := tdiv_bd b (gcdI a b) (by omega) (by omega) (by omega)
    have Q1 : IntKind.i64.wrap (-a.tdiv (gcdI a b)) = redT a b := by
      rw [← e1, Int.tdiv_neg]; exact IntWalk.i64_in _ (by omega)
    have Q2 : IntKind.i64.wrap (-b.tdiv (gcdI a b)) = redB a b := by
      rw [← e2, Int.tdiv_neg]; exact IntWalk.i64_in _ (by omega)
    have hne : ¬ gcdI a b = 0 := by omega
    clear T1 T2 e1 e2 bd bd2 h0
    go_enter Tryd.func29, Tryd.ntmps29
    go_wp2_with fail
    refine (l01Gcd_any _ _ _ (by omega) (by omega) (by omega) (by omega)).mono ?_
    rintro e w1 ⟨rfl, rfl⟩
    go_wp2_with fail
    go_region
    go_wp2
    refine bodyPost_ret (v := .agg #[.int .i64 (redT a b), .int .i64 (redB a b)]) (by simp [results, Tryd.results29, go_sem]) rfl ⟨rfl, ?_⟩
    go_grown
  · have T1 := IntWalk.i64_quo' a (gcdI a b) (by omega)
    have e1 := redT_pos a b hneg
    have e2 := redB_pos a b hneg
    have Q1 : IntKind.i64.wrap (a.tdiv (gcdI a b)) = redT a b := by rw [T1, e1]
    have Q2 : IntKind.i64.wrap (b.tdiv (gcdI a b)) = redB a b := by rw [IntWalk.i64_quo' b (gcdI a b) (by omega), e2]
    have hne : ¬ gcdI a b = 0 := by omega
    clear T1 e1 e2 h0
    go_enter Tryd.func29, Tryd.ntmps29
    go_wp2_with fail
    refine (l01Gcd_any _ _ _ (by omega) (by omega) (by omega) (by omega)).mono ?_
    rintro e w1 ⟨rfl, rfl⟩
    go_wp2_with fail
    go_region
    go_wp2
    refine bodyPost_ret (v := .agg #[.int .i64 (redT a b), .int .i64 (redB a b)]) (by simp [results, Tryd.results29, go_sem]) rfl ⟨rfl, ?_⟩
    go_grown
theorem MakeFraction_any (a b : Int) (w : World) : Calls Tryd.prog 12 #[.int .i64 a, .int .i64 b] w fun e w' => e = .returned (.tuple #[.agg #[.int .i64 (mkF a b).1, .int .i64 (mkF a b).2.1], .int .i64 (mkF a b).2.2]) ∧ Below w.heap.size w w' := by
  unfold mkF
  cases hA : isInt a
  · go_enter Tryd.func12, Tryd.ntmps12
    go_wp2_with (go_at_call 32; refine (isInteger_any _ _).mono ?_; rintro e w' ⟨rfl, rfl⟩)
    refine bodyPost_ret (v := .tuple #[.agg #[.int .i64 0, .int .i64 0], .int .i64 2]) (by simp [results, Tryd.results12, go_sem]) rfl ⟨rfl, ?_⟩
    go_grown
  · cases hB : isInt b
    · go_enter Tryd.func12, Tryd.ntmps12
      go_wp2_with (go_at_call 32; refine (isInteger_any _ _).mono ?_; rintro e w' ⟨rfl, rfl⟩)
      refine bodyPost_ret (v := .tuple #[.agg #[.int .i64 0, .int .i64 0], .int .i64 2]) (by simp [results, Tryd.results12, go_sem]) rfl ⟨rfl, ?_⟩
      go_grown
    · have ba := isInt_true.1 hA
      have bb := isInt_true.1 hB
      by_cases h0 : b = 0
      · have h0' : (b == 0) = true := by simp [h0]
        have H0 := Lib.hid h0; clear h0
        go_enter Tryd.func12, Tryd.ntmps12
        go_wp2_with (go_at_call 32; refine (isInteger_any _ _).mono ?_; rintro e w' ⟨rfl, rfl⟩)
        refine bodyPost_ret (v := .tuple #[.agg #[.int .i64 0, .int .i64 0], .int .i64 5]) (by simp [results, Tryd.results12, go_sem]) rfl ⟨by simp, ?_⟩
        go_grown
      · have h0' : (b == 0) = false := by simp [h0]
        have H0 := Lib.hid h0; clear h0
        go_enter Tryd.func12, Tryd.ntmps12
        go_wp2_with (go_at_call 32; refine (isInteger_any _ _).mono ?_; rintro e w' ⟨rfl, rfl⟩)
        refine (reduced_any _ _ _ (by omega) (by omega) (by omega) (by omega) H0.out).mono ?_
        rintro e w1 ⟨rfl, hb1⟩
        have c0 := (hb1.cell (p := ⟨w.heap.size, 0, none⟩) (by simp)).trans (by simp [go_sem] : _ = some (Value.int .i64 0))
        have c1 := (hb1.cell (p := ⟨w.heap.size, 1, none⟩) (by simp)).trans (by simp [go_sem] : _ = some (Value.int .i64 0))
        have f0 := (hb1.frozen (p := ⟨w.heap.size, 0, none⟩) (by simp)).trans (by simp [go_sem] : _ = false)
        have f1 := (hb1.frozen (p := ⟨w.heap.size, 1, none⟩) (by simp)).trans (by simp [go_sem] : _ = false)
        have hw1 : Below w.heap.size w w1 := ((Below.refl _ _).alloc (Nat.le_refl _) _).trans (hb1.mono (by simp))
        clear hb1
        go_wp2_with fail
        refine bodyPost_ret (v := .tuple #[.agg #[.int .i64 (redT a b), .int .i64 (redB a b)], .int .i64 0]) (by simp [results, Tryd.results12, go_sem, c0, c1]) rfl ⟨by simp, ?_⟩
        go_grown
theorem sMakeFraction_any (a b : Int) (w : World) : Calls Tryd.prog 13 #[.int .i64 a, .int .i64 b] w fun e w' => e = .returned (.tuple #[.agg #[.int .i64 (mkF a b).1, .int .i64 (mkF a b).2.1], .int .i64 (mkF a b).2.2]) ∧ Below w.heap.size w w' := by
  unfold mkF
  cases hA : isInt a
  · go_enter Tryd.func13, Tryd.ntmps13
    go_wp2_with (go_at_call 33; refine (l01Integer_any _ _).mono ?_; rintro e w' ⟨rfl, rfl⟩)
    refine bodyPost_ret (v := .tuple #[.agg #[.int .i64 0, .int .i64 0], .int .i64 2]) (by simp [results, Tryd.results13, go_sem]) rfl ⟨rfl, ?_⟩
    go_grown
  · cases hB : isInt b
    · go_enter Tryd.func13, Tryd.ntmps13
      go_wp2_with (go_at_call 33; refine (l01Integer_any _ _).mono ?_; rintro e w' ⟨rfl, rfl⟩)
      refine bodyPost_ret (v := .tuple #[.agg #[.int .i64 0, .int .i64 0], .int .i64 2]) (by simp [results, Tryd.results13, go_sem]) rfl ⟨rfl, ?_⟩
      go_grown
    · have ba := isInt_true.1 hA
      have bb := isInt_true.1 hB
      by_cases h0 : b = 0
      · have h0' : (b == 0) = true := by simp [h0]
        have H0 := Lib.hid h0; clear h0
        go_enter Tryd.func13, Tryd.ntmps13
        go_wp2_with (go_at_call 33; refine (l01Integer_any _ _).mono ?_; rintro e w' ⟨rfl, rfl⟩)
        refine bodyPost_ret (v := .tuple #[.agg #[.int .i64 0, .int .i64 0], .int .i64 5]) (by simp [results, Tryd.results13, go_sem]) rfl ⟨by simp, ?_⟩
        go_grown
      · have h0' : (b == 0) = false := by simp [h0]
        have H0 := Lib.hid h0; clear h0
        go_enter Tryd.func13, Tryd.ntmps13
        go_wp2_with (go_at_call 33; refine (l01Integer_any _ _).mono ?_; rintro e w' ⟨rfl, rfl⟩)
        refine (l01Make_any _ _ _ (by omega) (by omega) (by omega) (by omega) H0.out).mono ?_
        rintro e w1 ⟨rfl, hb1⟩
        have c0 := (hb1.cell (p := ⟨w.heap.size, 0, none⟩) (by simp)).trans (by simp [go_sem] : _ = some (Value.int .i64 0))
        have c1 := (hb1.cell (p := ⟨w.heap.size, 1, none⟩) (by simp)).trans (by simp [go_sem] : _ = some (Value.int .i64 0))
        have f0 := (hb1.frozen (p := ⟨w.heap.size, 0, none⟩) (by simp)).trans (by simp [go_sem] : _ = false)
        have f1 := (hb1.frozen (p := ⟨w.heap.size, 1, none⟩) (by simp)).trans (by simp [go_sem] : _ = false)
        have hw1 : Below w.heap.size w w1 := ((Below.refl _ _).alloc (Nat.le_refl _) _).trans (hb1.mono (by simp))
        clear hb1
        go_wp2_with fail
        refine bodyPost_ret (v := .tuple #[.agg #[.int .i64 (redT a b), .int .i64 (redB a b)], .int .i64 0]) (by simp [results, Tryd.results13, go_sem, c0, c1]) rfl ⟨by simp, ?_⟩
        go_grown
end WA
end Go.Proofs.YtdgjjmkpninnoaaDoor
