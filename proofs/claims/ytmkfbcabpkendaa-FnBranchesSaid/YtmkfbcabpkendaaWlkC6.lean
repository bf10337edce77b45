/-
  WALKS, CHAPTER 3: truncations, the callers.
-/
import Derived.Test.YtmkfbcabpkendaaWlkC5
namespace Go.Proofs.Ytmkfbcabpkendaa
open Go.RowKit
set_option linter.unusedVariables false
namespace WC
open K Pl WA WL
set_option maxHeartbeats 800000 in
theorem TruncateBranch_any (B : Nat) (v : Value) (xs : List Int) (k : Int) (w : World) (h : Is w B v xs) (hB : B ≤ w.heap.size) : Calls Try.prog 21 #[.agg #[v], .int .i64 k] w (LiB (trB xs k) w) := by
  have Hh := Lib.hid h
  have hb2 : ∀ o o', Below w.heap.size w ((w.alloc o).alloc o') := fun o o' => ((Below.refl _ _).alloc (Nat.le_refl _) _).alloc (by simp) _
  obtain ⟨A, n, c, rfl, hnc, hcm, hrd⟩ := h
  have Hlen := Lib.hid hrd.len
  unfold maxLen at hcm
  clear hrd
  cases hR : isBr xs
  · have Hr := Lib.hid (show trB xs k = ([], 1) by unfold trB; rw [hR]; rfl)
    go_enter Try.func21, Try.ntmps21
    go_wp2_with fail
    refine (IsBranch_any B _ xs _ (Hh.out.below ((hb2 _ _).mono hB)) (by simp; omega)).mono ?_
    rintro e w1 ⟨rfl, hb⟩
    rw [hR]
    have hcr : w1.cell? ⟨w.heap.size + 1, 0, none⟩ = some (.slice none 0 0) := (hb.cell (p := ⟨w.heap.size + 1, 0, none⟩) (by simp)).trans (by simp [go_sem])
    have hfr : w1.frozen? ⟨w.heap.size + 1, 0, none⟩ = false := (hb.frozen (p := ⟨w.heap.size + 1, 0, none⟩) (by simp)).trans (by simp [go_sem])
    have hw1 := (hb2 _ _).trans (hb.mono (by simp; omega))
    obtain ⟨r1, r2⟩ := res_none (b := w.heap.size + 1) hcr (by omega) hw1
    have R2 := Lib.hid r2
    clear hb r2
    go_wp2
    exact bodyPost_ret (v := .tuple #[.agg #[.slice none 0 0], .int .i64 1]) (by simp [results, Try.results21, go_sem, r1]) rfl (LiB.nil Hr.out R2.out)
  · have H7 := isBr_len_le hR
    have H1 := (isBr_true.1 hR).1
    rw [Hlen.out] at H7 H1
    have HR := Lib.hid hR
    cases hK : inR k 0 ((n : Int) - 1)
    · have Hr := Lib.hid (show trB xs k = ([], 2) by unfold trB; rw [hR, Hlen.out, hK]; rfl)
      go_enter Try.func21, Try.ntmps21
      go_wp2_with fail
      refine (IsBranch_any B _ xs _ (Hh.out.below ((hb2 _ _).mono hB)) (by simp; omega)).mono ?_
      rintro e w1 ⟨rfl, hb⟩
      rw [hR]
      have hcb : w1.cell? ⟨w.heap.size, 0, none⟩ = some (.slice A n c) := (hb.cell (p := ⟨w.heap.size, 0, none⟩) (by simp; omega)).trans (by simp [go_sem])
      have hcr : w1.cell? ⟨w.heap.size + 1, 0, none⟩ = some (.slice none 0 0) := (hb.cell (p := ⟨w.heap.size + 1, 0, none⟩) (by simp)).trans (by simp [go_sem])
      have hfr : w1.frozen? ⟨w.heap.size + 1, 0, none⟩ = false := (hb.frozen (p := ⟨w.heap.size + 1, 0, none⟩) (by simp)).trans (by simp [go_sem])
      have hw1 := (hb2 _ _).trans (hb.mono (by simp; omega))
      have hs1 : w.heap.size + 2 ≤ w1.heap.size := by have := hb.size; simp at this; omega
      clear hb hb2
      go_wp2_with fail
      refine (pairsOf_any B _ xs _ (Hh.out.below (hw1.mono hB)) (by rw [Hlen.out]; omega)).mono ?_
      rintro e w2 ⟨rfl, hb2⟩
      rw [Hlen.out]
      replace hcb := (hb2.cell (p := ⟨w.heap.size, 0, none⟩) (by show w.heap.size < _; omega)).trans hcb
      replace hcr := (hb2.cell (p := ⟨w.heap.size + 1, 0, none⟩) (by show w.heap.size + 1 < _; omega)).trans hcr
      replace hfr := (hb2.frozen (p := ⟨w.heap.size + 1, 0, none⟩) (by show w.heap.size + 1 < _; omega)).trans hfr
      replace hw1 := hw1.trans (hb2.mono hw1.size)
      replace hs1 : w.heap.size + 2 ≤ w2.heap.size := by have := hb2.size; omega
      clear hb2
      go_wp2_with fail
      refine (inRange_any _ _ _ _).mono ?_
      rintro e w' ⟨rfl, rfl⟩
      rw [hK]
      obtain ⟨r1, r2⟩ := res_none (b := w.heap.size + 1) hcr (by omega) hw1
      have R2 := Lib.hid r2
      clear r2
      go_wp2
      exact bodyPost_ret (v := .tuple #[.agg #[.slice none 0 0], .int .i64 2]) (by simp [results, Try.results21, go_sem, r1]) rfl (LiB.nil Hr.out R2.out)
    · have hk := inR_true.1 hK
      obtain ⟨q, rfl⟩ := Int.eq_ofNat_of_zero_le hk.1
      have Hr := Lib.hid (show trB xs (q : Int) = (trn xs q (q + 1), 0) by unfold trB; rw [hR, Hlen.out, hK]; rfl)
      have Hq := Lib.hid (show q < xs.length by rw [Hlen.out]; omega)
      go_enter Try.func21, Try.ntmps21
      go_wp2_with fail
      refine (IsBranch_any B _ xs _ (Hh.out.below ((hb2 _ _).mono hB)) (by simp; omega)).mono ?_
      rintro e w1 ⟨rfl, hb⟩
      rw [hR]
      have hcb : w1.cell? ⟨w.heap.size, 0, none⟩ = some (.slice A n c) := (hb.cell (p := ⟨w.heap.size, 0, none⟩) (by simp; omega)).trans (by simp [go_sem])
      have hcr : w1.cell? ⟨w.heap.size + 1, 0, none⟩ = some (.slice none 0 0) := (hb.cell (p := ⟨w.heap.size + 1, 0, none⟩) (by simp)).trans (by simp [go_sem])
      have hfr : w1.frozen? ⟨w.heap.size + 1, 0, none⟩ = false := (hb.frozen (p := ⟨w.heap.size + 1, 0, none⟩) (by simp)).trans (by simp [go_sem])
      have hw1 := (hb2 _ _).trans (hb.mono (by simp; omega))
      have hs1 : w.heap.size + 2 ≤ w1.heap.size := by have := hb.size; simp at this; omega
      clear hb hb2
      go_wp2_with fail
      refine (pairsOf_any B _ xs _ (Hh.out.below (hw1.mono hB)) (by rw [Hlen.out]; omega)).mono ?_
      rintro e w2 ⟨rfl, hb2⟩
      rw [Hlen.out]
      replace hcb := (hb2.cell (p := ⟨w.heap.size, 0, none⟩) (by show w.heap.size < _; omega)).trans hcb
      replace hcr := (hb2.cell (p := ⟨w.heap.size + 1, 0, none⟩) (by show w.heap.size + 1 < _; omega)).trans hcr
      replace hfr := (hb2.frozen (p := ⟨w.heap.size + 1, 0, none⟩) (by show w.heap.size + 1 < _; omega)).trans hfr
      replace hw1 := hw1.trans (hb2.mono hw1.size)
      replace hs1 : w.heap.size + 2 ≤ w2.heap.size := by have := hb2.size; omega
      clear hb2
      go_wp2_with fail
      refine (inRange_any _ _ _ _).mono ?_
      rintro e w' ⟨rfl, rfl⟩
      rw [hK]
      go_wp2_with fail
      have hwe := hw1
      refine (truncated_any B _ xs q _ (Hh.out.below (hwe.mono hB)) (by have := hwe.size; omega) HR.out Hq.out).mono ?_
      rintro e w3 ⟨v3, rfl, ow3, hb3⟩
      obtain ⟨A3, c3, rfl, _, _⟩ := ow3.shape
      have hcr3 := (hb3.cell (p := ⟨w.heap.size + 1, 0, none⟩) (by show w.heap.size + 1 < _; omega)).trans hcr
      have hfr3 := (hb3.frozen (p := ⟨w.heap.size + 1, 0, none⟩) (by show w.heap.size + 1 < _; omega)).trans hfr
      obtain ⟨r1, r2, r3⟩ := res_out2 (w := w) ow3 (b := w.heap.size + 1) (by omega) (Nat.le_refl _) hcr3 (by omega) (hwe.trans (hb3.mono hwe.size))
      have R2 := Lib.hid r2; have R3 := Lib.hid r3
      clear r2 r3 ow3 hb3 hk
      go_wp2
      refine bodyPost_ret (v := .tuple #[.agg #[.slice A3 (trn xs q (q + 1)).length c3], .int .i64 0]) (by simp [results, Try.results21, go_sem, r1]) rfl ⟨_, by rw [Hr.out], by rw [Hr.out]; exact R2.out, R3.out⟩
end WC
end Go.Proofs.Ytmkfbcabpkendaa
