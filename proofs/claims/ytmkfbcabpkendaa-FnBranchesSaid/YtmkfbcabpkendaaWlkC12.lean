/-
  WALKS, CHAPTER 3: pairs, the callers.
-/
import Derived.Test.YtmkfbcabpkendaaWlkC11
namespace Go.Proofs.Ytmkfbcabpkendaa
open Go.RowKit
set_option linter.unusedVariables false
namespace WC
open K Pl WA WL
set_option maxHeartbeats 400000 in
theorem PuiseuxPairs_any (B : Nat) (v : Value) (xs : List Int) (w : World) (h : Is w B v xs) (hB : B ≤ w.heap.size) : Calls Try.prog 6 #[.agg #[v]] w (LiR (puiB xs) w) := by
  have Hh := Lib.hid h
  have hb1 : ∀ o, Below w.heap.size w (w.alloc o) := fun o => (Below.refl _ _).alloc (Nat.le_refl _) o
  obtain ⟨A, n, c, rfl, hnc, hcm, hrd⟩ := h
  clear hrd
  cases hR : isBr xs
  · have Hr := Lib.hid (show puiB xs = ([], 1) by unfold puiB; rw [hR]; rfl)
    go_enter Try.func6, Try.ntmps6
    go_wp2_with fail
    refine (IsBranch_any B _ xs _ (Hh.out.below ((hb1 _).mono hB)) (by simp; omega)).mono ?_
    rintro e w1 ⟨rfl, hb⟩
    rw [hR]
    have hw1 := (hb1 _).trans (hb.mono (by simp))
    clear hb
    go_wp2_with fail
    go_ret2
    exact LiR.nil Hr.out hw1
  · have Hr := Lib.hid (show puiB xs = (puiL xs (xs.length - 1), 0) by unfold puiB; rw [hR]; rfl)
    have HR := Lib.hid hR
    go_enter Try.func6, Try.ntmps6
    go_wp2_with fail
    refine (IsBranch_any B _ xs _ (Hh.out.below ((hb1 _).mono hB)) (by simp; omega)).mono ?_
    rintro e w1 ⟨rfl, hb⟩
    rw [hR]
    have hc1 : w1.cell? ⟨w.heap.size, 0, none⟩ = some (.slice A n c) := (hb.cell (p := ⟨w.heap.size, 0, none⟩) (by simp)).trans (by simp [go_sem])
    have hw1 := (hb1 _).trans (hb.mono (by simp))
    have hs1 := hw1.size
    clear hb
    go_wp2_with fail
    refine (puiseux_any B _ xs _ (Hh.out.below (hw1.mono hB)) (by omega) HR.out).mono ?_
    rintro e w2 ⟨v2, rfl, ow2, hb2⟩
    have hw2 := hw1.trans (hb2.mono hs1)
    have Ho := Lib.hid (ow2.wide hs1 (Nat.le_refl _))
    clear hb2 ow2
    go_wp2_with fail
    go_ret2
    exact ⟨v2, by rw [Hr.out]; rfl, by rw [Hr.out]; exact Ho.out, hw2⟩
set_option maxHeartbeats 400000 in
theorem sPuiseuxPairs_any (B : Nat) (v : Value) (xs : List Int) (w : World) (h : Is w B v xs) (hB : B ≤ w.heap.size) : Calls Try.prog 7 #[.agg #[v]] w (LiR (puiB xs) w) := by
  have Hh := Lib.hid h
  have hb1 : ∀ o, Below w.heap.size w (w.alloc o) := fun o => (Below.refl _ _).alloc (Nat.le_refl _) o
  obtain ⟨A, n, c, rfl, hnc, hcm, hrd⟩ := h
  clear hrd
  cases hR : isBr xs
  · have Hr := Lib.hid (show puiB xs = ([], 1) by unfold puiB; rw [hR]; rfl)
    go_enter Try.func7, Try.ntmps7
    go_wp2_with fail
    refine (l03Is_any B _ xs _ (Hh.out.below ((hb1 _).mono hB)) (by simp; omega)).mono ?_
    rintro e w1 ⟨rfl, hb⟩
    rw [hR]
    have hw1 := (hb1 _).trans (hb.mono (by simp))
    clear hb
    go_wp2_with fail
    go_ret2
    exact LiR.nil Hr.out hw1
  · have Hr := Lib.hid (show puiB xs = (puiL xs (xs.length - 1), 0) by unfold puiB; rw [hR]; rfl)
    have HR := Lib.hid hR
    go_enter Try.func7, Try.ntmps7
    go_wp2_with fail
    refine (l03Is_any B _ xs _ (Hh.out.below ((hb1 _).mono hB)) (by simp; omega)).mono ?_
    rintro e w1 ⟨rfl, hb⟩
    rw [hR]
    have hc1 : w1.cell? ⟨w.heap.size, 0, none⟩ = some (.slice A n c) := (hb.cell (p := ⟨w.heap.size, 0, none⟩) (by simp)).trans (by simp [go_sem])
    have hw1 := (hb1 _).trans (hb.mono (by simp))
    have hs1 := hw1.size
    clear hb
    go_wp2_with fail
    refine (l03Puiseux_any B _ xs _ (Hh.out.below (hw1.mono hB)) (by omega) HR.out).mono ?_
    rintro e w2 ⟨v2, rfl, ow2, hb2⟩
    have hw2 := hw1.trans (hb2.mono hs1)
    have Ho := Lib.hid (ow2.wide hs1 (Nat.le_refl _))
    clear hb2 ow2
    go_wp2_with fail
    go_ret2
    exact ⟨v2, by rw [Hr.out]; rfl, by rw [Hr.out]; exact Ho.out, hw2⟩
set_option maxHeartbeats 400000 in
theorem NewtonPairs_any (B : Nat) (v : Value) (xs : List Int) (w : World) (h : Is w B v xs) (hB : B ≤ w.heap.size) : Calls Try.prog 12 #[.agg #[v]] w (LiR (newB xs) w) := by
  have Hh := Lib.hid h
  have hb1 : ∀ o, Below w.heap.size w (w.alloc o) := fun o => (Below.refl _ _).alloc (Nat.le_refl _) o
  obtain ⟨A, n, c, rfl, hnc, hcm, hrd⟩ := h
  clear hrd
  cases hR : isBr xs
  · have Hr := Lib.hid (show newB xs = ([], 1) by unfold newB; rw [hR]; rfl)
    go_enter Try.func12, Try.ntmps12
    go_wp2_with fail
    refine (IsBranch_any B _ xs _ (Hh.out.below ((hb1 _).mono hB)) (by simp; omega)).mono ?_
    rintro e w1 ⟨rfl, hb⟩
    rw [hR]
    have hw1 := (hb1 _).trans (hb.mono (by simp))
    clear hb
    go_wp2_with fail
    go_ret2
    exact LiR.nil Hr.out hw1
  · have Hr := Lib.hid (show newB xs = (newL xs (xs.length - 1), 0) by unfold newB; rw [hR]; rfl)
    have HR := Lib.hid hR
    go_enter Try.func12, Try.ntmps12
    go_wp2_with fail
    refine (IsBranch_any B _ xs _ (Hh.out.below ((hb1 _).mono hB)) (by simp; omega)).mono ?_
    rintro e w1 ⟨rfl, hb⟩
    rw [hR]
    have hc1 : w1.cell? ⟨w.heap.size, 0, none⟩ = some (.slice A n c) := (hb.cell (p := ⟨w.heap.size, 0, none⟩) (by simp)).trans (by simp [go_sem])
    have hw1 := (hb1 _).trans (hb.mono (by simp))
    have hs1 := hw1.size
    clear hb
    go_wp2_with fail
    refine (newton_any B _ xs _ (Hh.out.below (hw1.mono hB)) (by omega) HR.out).mono ?_
    rintro e w2 ⟨v2, rfl, ow2, hb2⟩
    have hw2 := hw1.trans (hb2.mono hs1)
    have Ho := Lib.hid (ow2.wide hs1 (Nat.le_refl _))
    clear hb2 ow2
    go_wp2_with fail
    go_ret2
    exact ⟨v2, by rw [Hr.out]; rfl, by rw [Hr.out]; exact Ho.out, hw2⟩
end WC
end Go.Proofs.Ytmkfbcabpkendaa
