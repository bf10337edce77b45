/-
  WALKS, CHAPTER 3: multiplicities, numbers of pairs, divisors.
-/
import Derived.Test.YtmkfbcabpkendaaWlkC2
import Derived.Test.YtmkfbcabpkendaaWlkA6
import Derived.Test.YtmkfbcabpkendaaKitR
namespace Go.Proofs.Ytmkfbcabpkendaa
open Go.RowKit
set_option linter.unusedVariables false
namespace WC
open K Pl WA
theorem pairsOf_any (B : Nat) (v : Value) (xs : List Int) (w : World) (h : Is w B v xs) (hp : 0 < xs.length) : Calls Try.prog 39 #[.agg #[v]] w fun e w' => e = .returned (.int .i64 ((xs.length : Int) - 1)) ∧ Below w.heap.size w w' := by
  obtain ⟨A, n, c, rfl, hnc, hcm, hrd⟩ := h
  have Hlen := Lib.hid hrd.len
  unfold maxLen at hcm
  rw [Hlen.out] at hp ⊢
  clear hrd
  go_enter Try.func39, Try.ntmps39
  go_wp2
  go_ret
  exact ⟨rfl, (Below.refl _ _).alloc (Nat.le_refl _) _⟩
set_option maxHeartbeats 400000 in
theorem MultiplicityOf_any (B : Nat) (v : Value) (xs : List Int) (w : World) (h : Is w B v xs) (hB : B ≤ w.heap.size) : Calls Try.prog 17 #[.agg #[v]] w fun e w' => e = .returned (.tuple #[.int .i64 (mulB xs).1, .int .i64 (mulB xs).2]) ∧ Below w.heap.size w w' := by
  have Hh := Lib.hid h
  have hb1 : ∀ o, Below w.heap.size w (w.alloc o) := fun o => (Below.refl _ _).alloc (Nat.le_refl _) o
  cases hR : isBr xs
  · have Hr := Lib.hid (show mulB xs = (0, 1) by unfold mulB; rw [hR]; rfl)
    obtain ⟨A, n, c, rfl, hnc, hcm, hrd⟩ := h
    clear hrd
    go_enter Try.func17, Try.ntmps17
    go_wp2_with fail
    refine (IsBranch_any B _ xs _ (Hh.out.below ((hb1 _).mono hB)) (by simp; omega)).mono ?_
    rintro e w1 ⟨rfl, hb⟩
    rw [hR]
    have hw1 := (hb1 _).trans (hb.mono (by simp))
    clear hb
    go_wp2_with fail
    go_ret2
    exact ⟨by rw [Hr.out]; rfl, hw1⟩
  · have Hr := Lib.hid (show mulB xs = (gx xs 0, 0) by unfold mulB; rw [hR]; rfl)
    have h0 := (isBr_true.1 hR).1
    obtain ⟨A, n, c, rfl, hnc, hcm, hrd⟩ := h
    rw [hrd.len] at h0
    obtain ⟨ad, rfl, hab, hc⟩ := hrd.pos h0
    have Hc := Lib.hid (show w.cell? ad = some (.int .i64 (gx xs 0)) by have := hc 0 h0; simpa [Addr.add] using this)
    clear hrd hc
    go_enter Try.func17, Try.ntmps17
    go_wp2_with fail
    refine (IsBranch_any B _ xs _ (Hh.out.below ((hb1 _).mono hB)) (by simp; omega)).mono ?_
    rintro e w1 ⟨rfl, hb⟩
    rw [hR]
    have hc1 : w1.cell? ⟨w.heap.size, 0, none⟩ = some (.slice (some ad) n c) := (hb.cell (p := ⟨w.heap.size, 0, none⟩) (by simp)).trans (by simp [go_sem])
    have hw1 := (hb1 _).trans (hb.mono (by simp))
    have hc0 : w1.cell? ad = some (.int .i64 (gx xs 0)) := (hw1.cell (by omega)).trans Hc.out
    have hi0 : (0 : Int) < (n : Int) := by omega
    clear hb
    go_wp2_with fail
    go_ret2
    exact ⟨by rw [Hr.out]; rfl, hw1⟩
set_option maxHeartbeats 400000 in
theorem CountPairs_any (B : Nat) (v : Value) (xs : List Int) (w : World) (h : Is w B v xs) (hB : B ≤ w.heap.size) : Calls Try.prog 16 #[.agg #[v]] w fun e w' => e = .returned (.tuple #[.int .i64 (cntB xs).1, .int .i64 (cntB xs).2]) ∧ Below w.heap.size w w' := by
  have Hh := Lib.hid h
  have hb1 : ∀ o, Below w.heap.size w (w.alloc o) := fun o => (Below.refl _ _).alloc (Nat.le_refl _) o
  cases hR : isBr xs
  · have Hr := Lib.hid (show cntB xs = (0, 1) by unfold cntB; rw [hR]; rfl)
    obtain ⟨A, n, c, rfl, hnc, hcm, hrd⟩ := h
    clear hrd
    go_enter Try.func16, Try.ntmps16
    go_wp2_with fail
    refine (IsBranch_any B _ xs _ (Hh.out.below ((hb1 _).mono hB)) (by simp; omega)).mono ?_
    rintro e w1 ⟨rfl, hb⟩
    rw [hR]
    have hw1 := (hb1 _).trans (hb.mono (by simp))
    clear hb
    go_wp2_with fail
    go_ret2
    exact ⟨by rw [Hr.out]; rfl, hw1⟩
  · have Hr := Lib.hid (show cntB xs = ((xs.length : Int) - 1, 0) by unfold cntB; rw [hR]; rfl)
    have H0 := Lib.hid (isBr_true.1 hR).1
    have H7 := isBr_len_le hR
    obtain ⟨A, n, c, rfl, hnc, hcm, hrd⟩ := h
    clear hrd
    go_enter Try.func16, Try.ntmps16
    go_wp2_with fail
    refine (IsBranch_any B _ xs _ (Hh.out.below ((hb1 _).mono hB)) (by simp; omega)).mono ?_
    rintro e w1 ⟨rfl, hb⟩
    rw [hR]
    have hc1 : w1.cell? ⟨w.heap.size, 0, none⟩ = some (.slice A n c) := (hb.cell (p := ⟨w.heap.size, 0, none⟩) (by simp)).trans (by simp [go_sem])
    have hw1 := (hb1 _).trans (hb.mono (by simp))
    have hs1 := hw1.size
    clear hb
    go_wp2_with fail
    refine (pairsOf_any B _ xs _ (Hh.out.below (hw1.mono hB)) H0.out).mono ?_
    rintro e w2 ⟨rfl, hb2⟩
    have hw2 := hw1.trans (hb2.mono hs1)
    clear hb2
    go_wp2_with fail
    go_ret2
    exact ⟨by rw [Hr.out]; rfl, hw2⟩
theorem isBr_rg {xs : List Int} (h : isBr xs = true) : ∀ j, j < xs.length → 0 ≤ gx xs j ∧ gx xs j ≤ 9223372036854775807 := fun j hj => by have := isBr_range h j hj; omega
set_option maxHeartbeats 400000 in
theorem DivisorsOf_any (B : Nat) (v : Value) (xs : List Int) (w : World) (h : Is w B v xs) (hB : B ≤ w.heap.size) : Calls Try.prog 15 #[.agg #[v]] w (Li2 (divB xs) w) := by
  have Hh := Lib.hid h
  have hb1 : ∀ o, Below w.heap.size w (w.alloc o) := fun o => (Below.refl _ _).alloc (Nat.le_refl _) o
  cases hR : isBr xs
  · have Hr := Lib.hid (show divB xs = ([], 1) by unfold divB; rw [hR]; rfl)
    obtain ⟨A, n, c, rfl, hnc, hcm, hrd⟩ := h
    clear hrd
    go_enter Try.func15, Try.ntmps15
    go_wp2_with fail
    refine (IsBranch_any B _ xs _ (Hh.out.below ((hb1 _).mono hB)) (by simp; omega)).mono ?_
    rintro e w1 ⟨rfl, hb⟩
    rw [hR]
    have hw1 := (hb1 _).trans (hb.mono (by simp))
    clear hb
    go_wp2_with fail
    go_ret2
    exact Li2.nil Hr.out hw1
  · have Hr := Lib.hid (show divB xs = (divs xs, 0) by unfold divB; rw [hR]; rfl)
    have Hg := Lib.hid (isBr_rg hR)
    have H7 := Lib.hid (show xs.length ≤ 1000000000 by have := isBr_len_le hR; omega)
    obtain ⟨A, n, c, rfl, hnc, hcm, hrd⟩ := h
    clear hrd
    go_enter Try.func15, Try.ntmps15
    go_wp2_with fail
    refine (IsBranch_any B _ xs _ (Hh.out.below ((hb1 _).mono hB)) (by simp; omega)).mono ?_
    rintro e w1 ⟨rfl, hb⟩
    rw [hR]
    have hc1 : w1.cell? ⟨w.heap.size, 0, none⟩ = some (.slice A n c) := (hb.cell (p := ⟨w.heap.size, 0, none⟩) (by simp)).trans (by simp [go_sem])
    have hw1 := (hb1 _).trans (hb.mono (by simp))
    have hs1 := hw1.size
    clear hb
    go_wp2_with fail
    refine (divisors_any B _ xs _ (Hh.out.below (hw1.mono hB)) (by omega) H7.out Hg).mono ?_
    rintro e w2 ⟨v2, rfl, ow2, hb2⟩
    have hw2 := hw1.trans (hb2.mono hs1)
    have Ho := Lib.hid (ow2.wide hs1 (Nat.le_refl _))
    clear hb2 ow2
    go_wp2_with fail
    go_ret2
    exact ⟨v2, by rw [Hr.out]; rfl, by rw [Hr.out]; exact Ho.out, hw2⟩
end WC
end Go.Proofs.Ytmkfbcabpkendaa
