/-
  WALKS, CHAPTER 3: truncations, the callers.
-/
import Derived.Test.YtpclplagkjimmaaWlkC5
namespace Go.Proofs.Ytpclplagkjimmaa
open Go.RowKit
set_option linter.unusedVariables false
namespace WC
open K Pl WA WL
set_option maxHeartbeats 1600000 in
theorem l03Cut_any (B : Nat) (v : Value) (xs : List Int) (k : Nat) (w : World) (h : Is w B v xs) (hB : B ≤ w.heap.size) (hR : isBr xs = true) (hk : k < xs.length) :
    Calls Try.prog 63 #[.agg #[v], .int .i64 (k : Int)] w fun e w' => ∃ v', e = .returned (.agg #[v']) ∧ Ow w' w.heap.size w'.heap.size v' (trn xs k (k + 1)) ∧ Below w.heap.size w w' := by
  have Hh := Lib.hid h
  have Hg := Lib.hid (isBr_rg hR)
  have H7 := isBr_len_le hR
  have Hp := Lib.hid (isBr_true.1 hR).1
  have Hl := Lib.hid (show xs.length ≤ 1000000000 by omega)
  have Hrg := Lib.hid (isBr_range hR)
  have hdg := isBr_dg hR (k + 1) (by omega)
  have hb2 : ∀ o o', Below w.heap.size w ((w.alloc o).alloc o') := fun o o' => ((Below.refl _ _).alloc (Nat.le_refl _) _).alloc (by simp) _
  obtain ⟨A, n, c, rfl, hnc, hcm, hrd⟩ := h
  have Hlen := Lib.hid hrd.len
  rw [Hlen.out] at hk H7
  obtain ⟨ad, rfl, hab, hc⟩ := hrd.pos (by omega)
  have Hc := Lib.hid hc
  unfold maxLen at hcm
  clear hrd hc hR
  go_enter Try.func63, Try.ntmps63
  go_wp2_with fail
  refine (l03Divisors_any B _ xs _ (Hh.out.below ((hb2 _ _).mono hB)) (by simp; omega) Hp.out Hl.out Hg).mono ?_
  rintro e w1 ⟨v1, rfl, ow1, hb1⟩
  obtain ⟨A1, n1, c1, rfl, hnc1, hcm1, hrd1⟩ := ow1.is
  obtain rfl : n1 = n := by have := hrd1.len; rw [divs_len, Hlen.out] at this; omega
  obtain ⟨ad1, rfl, hab1, hc1⟩ := hrd1.pos (by omega)
  have hce : w1.cell? (ad1.add k) = some (.int .i64 (dg xs (k + 1))) := by rw [hc1 k hk, gx_divs _ _ (by rw [Hlen.out]; exact hk)]
  have hcb : w1.cell? ⟨w.heap.size, 0, none⟩ = some (.slice (some ad) n1 c) := (hb1.cell (p := ⟨w.heap.size, 0, none⟩) (by simp; omega)).trans (by simp [go_sem])
  have hcbo : ∀ o, (w1.alloc o).cell? ⟨w.heap.size, 0, none⟩ = some (.slice (some ad) n1 c) := fun o => (World.cell?_alloc_lt w1 o ⟨w.heap.size, 0, none⟩ (World.block_lt_of_cell? w1 ⟨w.heap.size, 0, none⟩ hcb)).trans hcb
  have hcr : w1.cell? ⟨w.heap.size + 1, 0, none⟩ = some (.slice none 0 0) := (hb1.cell (p := ⟨w.heap.size + 1, 0, none⟩) (by simp)).trans (by simp [go_sem])
  have hfr : w1.frozen? ⟨w.heap.size + 1, 0, none⟩ = false := (hb1.frozen (p := ⟨w.heap.size + 1, 0, none⟩) (by simp)).trans (by simp [go_sem])
  have hw1 := (hb2 _ _).trans (hb1.mono (by simp; omega))
  have hs1 : w.heap.size + 2 ≤ w1.heap.size := by have := hb1.size; simp at this; omega
  have hi1 : 0 ≤ (k : Int) ∧ (k : Int) < (n1 : Int) := by omega
  have hkc : (k : Int) + 1 ≤ (c : Int) := by omega
  have hkc2 : 0 ≤ (k : Int) + 1 := by omega
  have hbn : Hid (Bv (w1.alloc (.cells #[.slice none 0 0] 27)) w1.heap.size (w1.heap.size + 1) none 0 0 (trn xs k 0)) := Lib.hid ⟨rfl, by simp [go_sem], by simp [go_sem], World.ownsRow_nil _ _ _ _, by simp [Value.ownBlock]⟩
  have hbe0 : ∀ o, Below w1.heap.size w1 (w1.alloc o) := fun o => (Below.refl _ _).alloc (Nat.le_refl _) o
  unfold maxLen at hcm1
  clear hb1 ow1 hrd1 hc1 hb2
  go_wp2
  go_loopw [7] (fun i wr => ∃ (j : Nat) (A6 : Option Addr) (c6 : Nat), j ≤ k + 1 ∧ i = .int .i64 j ∧ Hid (Bv wr w1.heap.size (w1.heap.size + 1) A6 j c6 (trn xs k j)) ∧ Below w1.heap.size w1 wr) (fun i _ => k + 1 - (intOf i).toNat)
  case atStart => exact ⟨0, none, 0, Nat.zero_le _, rfl, hbn, hbe0 _⟩
  case round =>
    clear hbn hbe0 hce hcbo
    obtain ⟨j, A6, c6, hj, rfl, hv, hbe⟩ := hrel
    have hbd := hv.out.bounds
    have hs := hbe.size
    have hbv := hv.out.lt
    by_cases hlt : j < k + 1
    · have hc3 : wr.cell? (ad.add j) = some (.int .i64 (gx xs j)) := (hbe.cell (by rw [block_of_add]; omega)).trans ((hw1.cell (by rw [block_of_add]; omega)).trans (Hc.out j (by omega)))
      have hcx := hv.out.cell
      have hfx := hv.out.free
      have hgj := Hrg.out j (by rw [Hlen.out]; omega)
      have hd0 : ¬ dg xs (k + 1) = 0 := by omega
      have hq := div_eq (show 0 ≤ gx xs j by omega) hdg.1 hgj.2
      have hi2 : 0 ≤ (j : Int) ∧ (j : Int) < (n1 : Int) := by omega
      have hi3 : (j : Int) ≤ (k : Int) := by omega
      have hcb2 : wr.cell? ⟨w.heap.size, 0, none⟩ = some (.slice (some ad) n1 c) := (hbe.cell (p := ⟨w.heap.size, 0, none⟩) (by show w.heap.size < _; omega)).trans hcb
      have Hsn := Lib.hid (trn_snoc xs k j)
      go_wp2_with fail
      go_region_law (first | (refine step_append_i (by rfl) _ _ (by rfl) (w1.heap.size + 1) (.slice A6 j c6) j (trn xs k j) (by simp [Act.eval]) (hv.out.own.alloc _) wr.heap.size (gx xs j / dg xs (k + 1)) 1 (by simp [Act.eval]) (by simp [go_sem]) (by omega) (by simp; omega) ?_; intro g' cap' w2 hown2 hgrow hat hlt2; obtain ⟨q1, q2⟩ := hv.out.after hgrow rfl))
      all_goals
        have Hv2 := Lib.hid (hv.out.step hgrow rfl hown2 hat)
        rw [← Hsn.out] at Hv2
        have hbe2 := fun u => hv.out.below (Nat.le_refl _) (Nat.le_succ _) hbe hgrow ⟨rfl, rfl, rfl, rfl⟩ u
        clear hv hown2 hgrow hat hq q1 q2 hcx hfx hcb2
        go_wp2_with fail
        go_roundw
        case rel => exact ⟨j + 1, _, _, by omega, by go_num, Hv2, hbe2 _⟩
        case measure => first | (simp [intOf]; done) | (simp [intOf]; omega)
    · obtain rfl : j = k + 1 := by omega
      have hi3 : ¬ (((k + 1 : Nat) : Int) ≤ (k : Int)) := by omega
      have hcx := hv.out.cell
      have hcr2 : wr.cell? ⟨w.heap.size + 1, 0, none⟩ = some (.slice none 0 0) := (hbe.cell (p := ⟨w.heap.size + 1, 0, none⟩) (by show w.heap.size + 1 < _; omega)).trans hcr
      have hfr2 : wr.frozen? ⟨w.heap.size + 1, 0, none⟩ = false := (hbe.frozen (p := ⟨w.heap.size + 1, 0, none⟩) (by show w.heap.size + 1 < _; omega)).trans hfr
      obtain ⟨r1, r2, r3⟩ := res_out hv.out (b := w.heap.size + 1) (by omega) hcr2 (by omega) (hw1.trans (hbe.mono (by omega)))
      have R2 := Lib.hid r2; have R3 := Lib.hid r3
      clear r2 r3
      go_wp2
      refine bodyPost_ret (v := .agg #[.slice A6 (k + 1) c6]) (by simp [results, Try.results63, go_sem, r1]) rfl ⟨_, rfl, R2.out, R3.out⟩
set_option maxHeartbeats 800000 in
theorem TruncateBranch_any (B : Nat) (v : Value) (xs : List Int) (k : Int) (w : World) (h : Is w B v xs) (hB : B ≤ w.heap.size) : Calls Try.prog 36 #[.agg #[v], .int .i64 k] w (LiB (trB xs k) w) := by
  have Hh := Lib.hid h
  have hb2 : ∀ o o', Below w.heap.size w ((w.alloc o).alloc o') := fun o o' => ((Below.refl _ _).alloc (Nat.le_refl _) _).alloc (by simp) _
  obtain ⟨A, n, c, rfl, hnc, hcm, hrd⟩ := h
  have Hlen := Lib.hid hrd.len
  unfold maxLen at hcm
  clear hrd
  cases hR : isBr xs
  · have Hr := Lib.hid (show trB xs k = ([], 1) by unfold trB; rw [hR]; rfl)
    go_enter Try.func36, Try.ntmps36
    go_wp2_with fail
    refine (IsBranch_any B _ xs _ (Hh.out.below ((hb2 _ _).mono hB)) (by simp; omega)).mono ?_
    rintro e w1 ⟨rfl, hb⟩
    rw [hR]
    have hcr : w1.cell? ⟨w.heap.size + 1, 0, none⟩ = some (.slice none 0 0) := (hb.cell (p := ⟨w.heap.size + 1, 0, none⟩) (by simp)).trans (by simp [go_sem])
    have hfr : w1.frozen? ⟨w.heap.size + 1, 0, none⟩ = false := (hb.frozen (p := ⟨w.heap.size + 1, 0, none⟩) (by simp)).trans (by simp [go_sem])
    have hw1 := (hb2 _ _).trans (hb.mono (by simp; omega))
    obtain ⟨r1, r2⟩ := res_none (b := w.heap.size + 1) hcr (by omega) hw1
    have R2 := Lib.hid r2
    clear hb r2
    go_wp2
    exact bodyPost_ret (v := .tuple #[.agg #[.slice none 0 0], .int .i64 1]) (by simp [results, Try.results36, go_sem, r1]) rfl (LiB.nil Hr.out R2.out)
  · have H7 := isBr_len_le hR
    have H1 := (isBr_true.1 hR).1
    rw [Hlen.out] at H7 H1
    have HR := Lib.hid hR
    cases hK : inR k 0 ((n : Int) - 1)
    · have Hr := Lib.hid (show trB xs k = ([], 2) by unfold trB; rw [hR, Hlen.out, hK]; rfl)
      go_enter Try.func36, Try.ntmps36
      go_wp2_with fail
      refine (IsBranch_any B _ xs _ (Hh.out.below ((hb2 _ _).mono hB)) (by simp; omega)).mono ?_
      rintro e w1 ⟨rfl, hb⟩
      rw [hR]
      have hcb : w1.cell? ⟨w.heap.size, 0, none⟩ = some (.slice A n c) := (hb.cell (p := ⟨w.heap.size, 0, none⟩) (by simp; omega)).trans (by simp [go_sem])
      have hcr : w1.cell? ⟨w.heap.size + 1, 0, none⟩ = some (.slice none 0 0) := (hb.cell (p := ⟨w.heap.size + 1, 0, none⟩) (by simp)).trans (by simp [go_sem])
      have hfr : w1.frozen? ⟨w.heap.size + 1, 0, none⟩ = false := (hb.frozen (p := ⟨w.heap.size + 1, 0, none⟩) (by simp)).trans (by simp [go_sem])
      have hw1 := (hb2 _ _).trans (hb.mono (by simp; omega))
      have hs1 : w.heap.size + 2 ≤ w1.heap.size := by have := hb.size; simp at this; omega
      clear hb hb2
      go_wp2_with fail
      refine (pairsOf_any B _ xs _ (Hh.out.below (hw1.mono hB)) (by rw [Hlen.out]; omega)).mono ?_
      rintro e w2 ⟨rfl, hb2⟩
      rw [Hlen.out]
      replace hcb := (hb2.cell (p := ⟨w.heap.size, 0, none⟩) (by show w.heap.size < _; omega)).trans hcb
      replace hcr := (hb2.cell (p := ⟨w.heap.size + 1, 0, none⟩) (by show w.heap.size + 1 < _; omega)).trans hcr
      replace hfr := (hb2.frozen (p := ⟨w.heap.size + 1, 0, none⟩) (by show w.heap.size + 1 < _; omega)).trans hfr
      replace hw1 := hw1.trans (hb2.mono hw1.size)
      replace hs1 : w.heap.size + 2 ≤ w2.heap.size := by have := hb2.size; omega
      clear hb2
      go_wp2_with fail
      refine (inRange_any _ _ _ _).mono ?_
      rintro e w' ⟨rfl, rfl⟩
      rw [hK]
      obtain ⟨r1, r2⟩ := res_none (b := w.heap.size + 1) hcr (by omega) hw1
      have R2 := Lib.hid r2
      clear r2
      go_wp2
      exact bodyPost_ret (v := .tuple #[.agg #[.slice none 0 0], .int .i64 2]) (by simp [results, Try.results36, go_sem, r1]) rfl (LiB.nil Hr.out R2.out)
    · have hk := inR_true.1 hK
      obtain ⟨q, rfl⟩ := Int.eq_ofNat_of_zero_le hk.1
      have Hr := Lib.hid (show trB xs (q : Int) = (trn xs q (q + 1), 0) by unfold trB; rw [hR, Hlen.out, hK]; rfl)
      have Hq := Lib.hid (show q < xs.length by rw [Hlen.out]; omega)
      go_enter Try.func36, Try.ntmps36
      go_wp2_with fail
      refine (IsBranch_any B _ xs _ (Hh.out.below ((hb2 _ _).mono hB)) (by simp; omega)).mono ?_
      rintro e w1 ⟨rfl, hb⟩
      rw [hR]
      have hcb : w1.cell? ⟨w.heap.size, 0, none⟩ = some (.slice A n c) := (hb.cell (p := ⟨w.heap.size, 0, none⟩) (by simp; omega)).trans (by simp [go_sem])
      have hcr : w1.cell? ⟨w.heap.size + 1, 0, none⟩ = some (.slice none 0 0) := (hb.cell (p := ⟨w.heap.size + 1, 0, none⟩) (by simp)).trans (by simp [go_sem])
      have hfr : w1.frozen? ⟨w.heap.size + 1, 0, none⟩ = false := (hb.frozen (p := ⟨w.heap.size + 1, 0, none⟩) (by simp)).trans (by simp [go_sem])
      have hw1 := (hb2 _ _).trans (hb.mono (by simp; omega))
      have hs1 : w.heap.size + 2 ≤ w1.heap.size := by have := hb.size; simp at this; omega
      clear hb hb2
      go_wp2_with fail
      refine (pairsOf_any B _ xs _ (Hh.out.below (hw1.mono hB)) (by rw [Hlen.out]; omega)).mono ?_
      rintro e w2 ⟨rfl, hb2⟩
      rw [Hlen.out]
      replace hcb := (hb2.cell (p := ⟨w.heap.size, 0, none⟩) (by show w.heap.size < _; omega)).trans hcb
      replace hcr := (hb2.cell (p := ⟨w.heap.size + 1, 0, none⟩) (by show w.heap.size + 1 < _; omega)).trans hcr
      replace hfr := (hb2.frozen (p := ⟨w.heap.size + 1, 0, none⟩) (by show w.heap.size + 1 < _; omega)).trans hfr
      replace hw1 := hw1.trans (hb2.mono hw1.size)
      replace hs1 : w.heap.size + 2 ≤ w2.heap.size := by have := hb2.size; omega
      clear hb2
      go_wp2_with fail
      refine (inRange_any _ _ _ _).mono ?_
      rintro e w' ⟨rfl, rfl⟩
      rw [hK]
      go_wp2_with fail
      have hwe := hw1
      refine (truncated_any B _ xs q _ (Hh.out.below (hwe.mono hB)) (by have := hwe.size; omega) HR.out Hq.out).mono ?_
      rintro e w3 ⟨v3, rfl, ow3, hb3⟩
      obtain ⟨A3, c3, rfl, _, _⟩ := ow3.shape
      have hcr3 := (hb3.cell (p := ⟨w.heap.size + 1, 0, none⟩) (by show w.heap.size + 1 < _; omega)).trans hcr
      have hfr3 := (hb3.frozen (p := ⟨w.heap.size + 1, 0, none⟩) (by show w.heap.size + 1 < _; omega)).trans hfr
      obtain ⟨r1, r2, r3⟩ := res_out2 (w := w) ow3 (b := w.heap.size + 1) (by omega) (Nat.le_refl _) hcr3 (by omega) (hwe.trans (hb3.mono hwe.size))
      have R2 := Lib.hid r2; have R3 := Lib.hid r3
      clear r2 r3 ow3 hb3 hk
      go_wp2
      refine bodyPost_ret (v := .tuple #[.agg #[.slice A3 (trn xs q (q + 1)).length c3], .int .i64 0]) (by simp [results, Try.results36, go_sem, r1]) rfl ⟨_, by rw [Hr.out], by rw [Hr.out]; exact R2.out, R3.out⟩
set_option maxHeartbeats 800000 in
theorem sTruncateBranch_any (B : Nat) (v : Value) (xs : List Int) (k : Int) (w : World) (h : Is w B v xs) (hB : B ≤ w.heap.size) : Calls Try.prog 35 #[.agg #[v], .int .i64 k] w (LiB (trB xs k) w) := by
  have Hh := Lib.hid h
  have hb2 : ∀ o o', Below w.heap.size w ((w.alloc o).alloc o') := fun o o' => ((Below.refl _ _).alloc (Nat.le_refl _) _).alloc (by simp) _
  obtain ⟨A, n, c, rfl, hnc, hcm, hrd⟩ := h
  have Hlen := Lib.hid hrd.len
  unfold maxLen at hcm
  clear hrd
  cases hR : isBr xs
  · have Hr := Lib.hid (show trB xs k = ([], 1) by unfold trB; rw [hR]; rfl)
    go_enter Try.func35, Try.ntmps35
    go_wp2_with fail
    refine (l03Is_any B _ xs _ (Hh.out.below ((hb2 _ _).mono hB)) (by simp; omega)).mono ?_
    rintro e w1 ⟨rfl, hb⟩
    rw [hR]
    have hcr : w1.cell? ⟨w.heap.size + 1, 0, none⟩ = some (.slice none 0 0) := (hb.cell (p := ⟨w.heap.size + 1, 0, none⟩) (by simp)).trans (by simp [go_sem])
    have hfr : w1.frozen? ⟨w.heap.size + 1, 0, none⟩ = false := (hb.frozen (p := ⟨w.heap.size + 1, 0, none⟩) (by simp)).trans (by simp [go_sem])
    have hw1 := (hb2 _ _).trans (hb.mono (by simp; omega))
    obtain ⟨r1, r2⟩ := res_none (b := w.heap.size + 1) hcr (by omega) hw1
    have R2 := Lib.hid r2
    clear hb r2
    go_wp2
    exact bodyPost_ret (v := .tuple #[.agg #[.slice none 0 0], .int .i64 1]) (by simp [results, Try.results35, go_sem, r1]) rfl (LiB.nil Hr.out R2.out)
  · have H7 := isBr_len_le hR
    have H1 := (isBr_true.1 hR).1
    rw [Hlen.out] at H7 H1
    have HR := Lib.hid hR
    cases hK : inR k 0 ((n : Int) - 1)
    · have Hr := Lib.hid (show trB xs k = ([], 2) by unfold trB; rw [hR, Hlen.out, hK]; rfl)
      go_enter Try.func35, Try.ntmps35
      go_wp2_with fail
      refine (l03Is_any B _ xs _ (Hh.out.below ((hb2 _ _).mono hB)) (by simp; omega)).mono ?_
      rintro e w1 ⟨rfl, hb⟩
      rw [hR]
      have hcb : w1.cell? ⟨w.heap.size, 0, none⟩ = some (.slice A n c) := (hb.cell (p := ⟨w.heap.size, 0, none⟩) (by simp; omega)).trans (by simp [go_sem])
      have hcr : w1.cell? ⟨w.heap.size + 1, 0, none⟩ = some (.slice none 0 0) := (hb.cell (p := ⟨w.heap.size + 1, 0, none⟩) (by simp)).trans (by simp [go_sem])
      have hfr : w1.frozen? ⟨w.heap.size + 1, 0, none⟩ = false := (hb.frozen (p := ⟨w.heap.size + 1, 0, none⟩) (by simp)).trans (by simp [go_sem])
      have hw1 := (hb2 _ _).trans (hb.mono (by simp; omega))
      have hs1 : w.heap.size + 2 ≤ w1.heap.size := by have := hb.size; simp at this; omega
      clear hb hb2
      go_wp2_with fail
      refine (l01In_any _ _ _ _).mono ?_
      rintro e w' ⟨rfl, rfl⟩
      rw [hK]
      obtain ⟨r1, r2⟩ := res_none (b := w.heap.size + 1) hcr (by omega) hw1
      have R2 := Lib.hid r2
      clear r2
      go_wp2
      exact bodyPost_ret (v := .tuple #[.agg #[.slice none 0 0], .int .i64 2]) (by simp [results, Try.results35, go_sem, r1]) rfl (LiB.nil Hr.out R2.out)
    · have hk := inR_true.1 hK
      obtain ⟨q, rfl⟩ := Int.eq_ofNat_of_zero_le hk.1
      have Hr := Lib.hid (show trB xs (q : Int) = (trn xs q (q + 1), 0) by unfold trB; rw [hR, Hlen.out, hK]; rfl)
      have Hq := Lib.hid (show q < xs.length by rw [Hlen.out]; omega)
      go_enter Try.func35, Try.ntmps35
      go_wp2_with fail
      refine (l03Is_any B _ xs _ (Hh.out.below ((hb2 _ _).mono hB)) (by simp; omega)).mono ?_
      rintro e w1 ⟨rfl, hb⟩
      rw [hR]
      have hcb : w1.cell? ⟨w.heap.size, 0, none⟩ = some (.slice A n c) := (hb.cell (p := ⟨w.heap.size, 0, none⟩) (by simp; omega)).trans (by simp [go_sem])
      have hcr : w1.cell? ⟨w.heap.size + 1, 0, none⟩ = some (.slice none 0 0) := (hb.cell (p := ⟨w.heap.size + 1, 0, none⟩) (by simp)).trans (by simp [go_sem])
      have hfr : w1.frozen? ⟨w.heap.size + 1, 0, none⟩ = false := (hb.frozen (p := ⟨w.heap.size + 1, 0, none⟩) (by simp)).trans (by simp [go_sem])
      have hw1 := (hb2 _ _).trans (hb.mono (by simp; omega))
      have hs1 : w.heap.size + 2 ≤ w1.heap.size := by have := hb.size; simp at this; omega
      clear hb hb2
      go_wp2_with fail
      refine (l01In_any _ _ _ _).mono ?_
      rintro e w' ⟨rfl, rfl⟩
      rw [hK]
      go_wp2_with fail
      have hwe := hw1
      refine (l03Cut_any B _ xs q _ (Hh.out.below (hwe.mono hB)) (by have := hwe.size; omega) HR.out Hq.out).mono ?_
      rintro e w3 ⟨v3, rfl, ow3, hb3⟩
      obtain ⟨A3, c3, rfl, _, _⟩ := ow3.shape
      have hcr3 := (hb3.cell (p := ⟨w.heap.size + 1, 0, none⟩) (by show w.heap.size + 1 < _; omega)).trans hcr
      have hfr3 := (hb3.frozen (p := ⟨w.heap.size + 1, 0, none⟩) (by show w.heap.size + 1 < _; omega)).trans hfr
      obtain ⟨r1, r2, r3⟩ := res_out2 (w := w) ow3 (b := w.heap.size + 1) (by omega) (Nat.le_refl _) hcr3 (by omega) (hwe.trans (hb3.mono hwe.size))
      have R2 := Lib.hid r2; have R3 := Lib.hid r3
      clear r2 r3 ow3 hb3 hk
      go_wp2
      refine bodyPost_ret (v := .tuple #[.agg #[.slice A3 (trn xs q (q + 1)).length c3], .int .i64 0]) (by simp [results, Try.results35, go_sem, r1]) rfl ⟨_, by rw [Hr.out], by rw [Hr.out]; exact R2.out, R3.out⟩
end WC
end Go.Proofs.Ytpclplagkjimmaa
