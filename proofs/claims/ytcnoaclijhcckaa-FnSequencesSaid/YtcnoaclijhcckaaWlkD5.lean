/-
  WALKS, CHAPTER 4: numbers of points, delta invariants, blow-ups: the program's, and all callers.
-/
import Derived.Test.YtcnoaclijhcckaaWlkD4
namespace Go.Proofs.Ytcnoaclijhcckaa
open Go.RowKit
set_option linter.unusedVariables false
namespace WD
open K Pl WA WC
theorem sumW_take (f : Int → Int) (ys : List Int) (k : Nat) (h : k < ys.length) : sumW f (ys.take (k + 1)) = sumW f (ys.take k) + f (gx ys k) := by
  rw [take_snoc ys k h, sumW_snoc]
theorem sumW_take_bd {f : Int → Int} {m : Int} {ys : List Int} (hm : 0 ≤ m) (h : ∀ x ∈ ys, 0 ≤ f x ∧ f x ≤ m) (k : Nat) : 0 ≤ sumW f (ys.take k) ∧ sumW f (ys.take k) ≤ k * m := by
  have := sumW_bd (l := ys.take k) hm (fun x hx => h x (List.mem_of_mem_take hx))
  refine ⟨this.1, Int.le_trans this.2 (Int.mul_le_mul_of_nonneg_right ?_ hm)⟩
  have := List.length_take_le k ys
  omega
set_option maxHeartbeats 800000 in
theorem deltaOf_any (B : Nat) (v : Value) (ys : List Int) (w : World) (h : Is w B v ys) (hy : ∀ x ∈ ys, 1 ≤ x ∧ x ≤ 64) (hl : ys.length ≤ 1000000) : Calls Try.prog 34 #[v] w fun e w' => e = .returned (.int .i64 (sumW dlt ys)) ∧ w = w' := by
  have Hy := Lib.hid hy
  obtain ⟨A, n, c, rfl, hnc, hcm, hrd⟩ := h
  have Hlen := Lib.hid hrd.len
  rw [Hlen.out] at hl
  unfold maxLen at hcm
  clear hy
  go_enter Try.func34, Try.ntmps34
  go_wp2
  go_loop [3, 8] (fun u i => ∃ k : Nat, k ≤ n ∧ i = .int .i64 k ∧ u = .int .i64 (sumW dlt (ys.take k))) (fun _ i => n - (intOf i).toNat)
  case atStart => exact ⟨0, Nat.zero_le _, rfl, rfl⟩
  case round =>
    obtain ⟨k, hk, rfl, rfl⟩ := hrel
    have hsb := sumW_take_bd (f := dlt) (m := 2016) (by omega) (fun x hx => dlt_bd (Hy.out x hx).1 (Hy.out x hx).2) k
    by_cases hlt : k < n
    · obtain ⟨ad, rfl, hab, hc⟩ := hrd.pos (by omega)
      have hc1 : w.cell? (ad.add k) = some (.int .i64 (gx ys k)) := hc k hlt
      have hi1 : 0 ≤ (k : Int) ∧ (k : Int) < (n : Int) := by omega
      have hg := Hy.out (gx ys k) (gx_mem ys k (by rw [Hlen.out]; exact hlt))
      have hd := dlt_bd hg.1 hg.2
      have hm0 : 0 ≤ gx ys k * (gx ys k - 1) := Int.mul_nonneg (by omega) (by omega)
      have hm1 : gx ys k * (gx ys k - 1) ≤ 64 * 63 := Int.mul_le_mul hg.2 (by omega) (by omega) (by omega)
      have Hsn := Lib.hid (show sumW dlt (ys.take (k + 1)) = sumW dlt (ys.take k) + gx ys k * (gx ys k - 1) / 2 from sumW_take dlt ys k (by rw [Hlen.out]; exact hlt))
      unfold dlt at hd
      clear hc
      go_wp2
      go_round
      case rel => exact ⟨k + 1, by omega, by go_num, by rw [Hsn.out]⟩
      case measure => first | (simp [intOf]; done) | (simp [intOf]; omega)
    · obtain rfl : k = n := by omega
      have He := Lib.hid (show ys.take k = ys from List.take_of_length_le (Nat.le_of_eq Hlen.out))
      go_wp2
      go_ret
      exact ⟨ret_i (by rw [He.out]), rfl⟩
set_option maxHeartbeats 800000 in
theorem CountBranchPoints_any (B : Nat) (v : Value) (xs : List Int) (w : World) (h : Is w B v xs) (hB : B ≤ w.heap.size) : Calls Try.prog 21 #[.agg #[v]] w fun e w' => e = .returned (.tuple #[.int .i64 (cbpB xs).1, .int .i64 (cbpB xs).2]) ∧ Below w.heap.size w w' := by
  have Hh := Lib.hid h
  have hb1 : ∀ o, Below w.heap.size w (w.alloc o) := fun o => (Below.refl _ _).alloc (Nat.le_refl _) o
  obtain ⟨A, n0, c, rfl, hnc, hcm, hrd⟩ := h
  clear hrd
  cases hR : isBr xs
  · have Hr := Lib.hid (show cbpB xs = (0, 1) by unfold cbpB; rw [hR]; rfl)
    go_enter Try.func21, Try.ntmps21
    go_wp2_with fail
    refine (IsBranch_any B _ xs _ (Hh.out.below ((hb1 _).mono hB)) (by simp; omega)).mono ?_
    rintro e w1 ⟨rfl, hb⟩
    rw [hR]
    have hw1 := (hb1 _).trans (hb.mono (by simp))
    clear hb
    go_wp2_with fail
    go_ret2
    exact ⟨by rw [Hr.out]; rfl, hw1⟩
  · have HR := Lib.hid hR
    have Hr := Lib.hid (show cbpB xs = (((seqB xs).length : Int), 0) by unfold cbpB; rw [hR]; rfl)
    have Hsb := Lib.hid (seqB_bd hR)
    have hsl := seqB_len hR
    go_enter Try.func21, Try.ntmps21
    go_wp2_with fail
    refine (IsBranch_any B _ xs _ (Hh.out.below ((hb1 _).mono hB)) (by simp; omega)).mono ?_
    rintro e w0 ⟨rfl, hb⟩
    rw [hR]
    have hc1 : w0.cell? ⟨w.heap.size, 0, none⟩ = some (.slice A n0 c) := (hb.cell (p := ⟨w.heap.size, 0, none⟩) (by simp)).trans (by simp [go_sem])
    have hw0 := (hb1 _).trans (hb.mono (by simp))
    have hs0 := hw0.size
    clear hb hb1
    go_wp2_with fail
    refine (sequence_any B _ xs _ (Hh.out.below (hw0.mono hB)) (by omega) HR.out).mono ?_
    rintro e w1 ⟨v1, rfl, ow1, hb⟩
    have hw1 := hw0.trans (hb.mono hs0)
    have hs1 := hw1.size
    clear hb
    obtain ⟨A1, c1, rfl, hl1, hl2⟩ := ow1.shape
    clear ow1
    go_wp2_with fail
    go_ret2
    exact ⟨by rw [Hr.out]; rfl, hw1⟩
set_option maxHeartbeats 800000 in
theorem DeltaInvariant_any (B : Nat) (v : Value) (xs : List Int) (w : World) (h : Is w B v xs) (hB : B ≤ w.heap.size) : Calls Try.prog 9 #[.agg #[v]] w fun e w' => e = .returned (.tuple #[.int .i64 (delB xs).1, .int .i64 (delB xs).2]) ∧ Below w.heap.size w w' := by
  have Hh := Lib.hid h
  have hb1 : ∀ o, Below w.heap.size w (w.alloc o) := fun o => (Below.refl _ _).alloc (Nat.le_refl _) o
  obtain ⟨A, n0, c, rfl, hnc, hcm, hrd⟩ := h
  clear hrd
  cases hR : isBr xs
  · have Hr := Lib.hid (show delB xs = (0, 1) by unfold delB; rw [hR]; rfl)
    go_enter Try.func9, Try.ntmps9
    go_wp2_with fail
    refine (IsBranch_any B _ xs _ (Hh.out.below ((hb1 _).mono hB)) (by simp; omega)).mono ?_
    rintro e w1 ⟨rfl, hb⟩
    rw [hR]
    have hw1 := (hb1 _).trans (hb.mono (by simp))
    clear hb
    go_wp2_with fail
    go_ret2
    exact ⟨by rw [Hr.out]; rfl, hw1⟩
  · have HR := Lib.hid hR
    have Hr := Lib.hid (show delB xs = (sumW dlt (seqB xs), 0) by unfold delB; rw [hR]; rfl)
    have Hsb := Lib.hid (seqB_bd hR)
    have hsl := seqB_len hR
    go_enter Try.func9, Try.ntmps9
    go_wp2_with fail
    refine (IsBranch_any B _ xs _ (Hh.out.below ((hb1 _).mono hB)) (by simp; omega)).mono ?_
    rintro e w0 ⟨rfl, hb⟩
    rw [hR]
    have hc1 : w0.cell? ⟨w.heap.size, 0, none⟩ = some (.slice A n0 c) := (hb.cell (p := ⟨w.heap.size, 0, none⟩) (by simp)).trans (by simp [go_sem])
    have hw0 := (hb1 _).trans (hb.mono (by simp))
    have hs0 := hw0.size
    clear hb hb1
    go_wp2_with fail
    refine (sequence_any B _ xs _ (Hh.out.below (hw0.mono hB)) (by omega) HR.out).mono ?_
    rintro e w1 ⟨v1, rfl, ow1, hb⟩
    have hw1 := hw0.trans (hb.mono hs0)
    have hs1 := hw1.size
    clear hb
    go_wp2_with fail
    refine (deltaOf_any _ _ (seqB xs) _ ow1.is Hsb.out hsl.2).mono ?_
    rintro e w2 ⟨rfl, rfl⟩
    go_wp2_with fail
    go_ret2
    exact ⟨by rw [Hr.out]; rfl, hw1⟩
set_option maxHeartbeats 800000 in
theorem sDeltaInvariant_any (B : Nat) (v : Value) (xs : List Int) (w : World) (h : Is w B v xs) (hB : B ≤ w.heap.size) : Calls Try.prog 10 #[.agg #[v]] w fun e w' => e = .returned (.tuple #[.int .i64 (delB xs).1, .int .i64 (delB xs).2]) ∧ Below w.heap.size w w' := by
  have Hh := Lib.hid h
  have hb1 : ∀ o, Below w.heap.size w (w.alloc o) := fun o => (Below.refl _ _).alloc (Nat.le_refl _) o
  obtain ⟨A, n0, c, rfl, hnc, hcm, hrd⟩ := h
  clear hrd
  cases hR : isBr xs
  · have Hr := Lib.hid (show delB xs = (0, 1) by unfold delB; rw [hR]; rfl)
    go_enter Try.func10, Try.ntmps10
    go_wp2_with fail
    refine (l03Is_any B _ xs _ (Hh.out.below ((hb1 _).mono hB)) (by simp; omega)).mono ?_
    rintro e w1 ⟨rfl, hb⟩
    rw [hR]
    have hw1 := (hb1 _).trans (hb.mono (by simp))
    clear hb
    go_wp2_with fail
    go_ret2
    exact ⟨by rw [Hr.out]; rfl, hw1⟩
  · have HR := Lib.hid hR
    have Hr := Lib.hid (show delB xs = (sumW dlt (seqB xs), 0) by unfold delB; rw [hR]; rfl)
    have Hsb := Lib.hid (seqB_bd hR)
    have hsl := seqB_len hR
    go_enter Try.func10, Try.ntmps10
    go_wp2_with fail
    refine (l03Is_any B _ xs _ (Hh.out.below ((hb1 _).mono hB)) (by simp; omega)).mono ?_
    rintro e w0 ⟨rfl, hb⟩
    rw [hR]
    have hc1 : w0.cell? ⟨w.heap.size, 0, none⟩ = some (.slice A n0 c) := (hb.cell (p := ⟨w.heap.size, 0, none⟩) (by simp)).trans (by simp [go_sem])
    have hw0 := (hb1 _).trans (hb.mono (by simp))
    have hs0 := hw0.size
    clear hb hb1
    go_wp2_with fail
    refine (l04Delta_any B _ xs _ (Hh.out.below (hw0.mono hB)) (by omega) HR.out).mono ?_
    rintro e w1 ⟨rfl, hb⟩
    have hw1 := hw0.trans (hb.mono hs0)
    clear hb
    go_wp2_with fail
    go_ret2
    exact ⟨by rw [Hr.out]; rfl, hw1⟩
set_option maxHeartbeats 400000 in
theorem MilnorOfBranch_any (B : Nat) (v : Value) (xs : List Int) (w : World) (h : Is w B v xs) (hB : B ≤ w.heap.size) : Calls Try.prog 15 #[.agg #[v]] w fun e w' => e = .returned (.tuple #[.int .i64 (milB xs).1, .int .i64 (milB xs).2]) ∧ Below w.heap.size w w' := by
  have Hh := Lib.hid h
  have hb1 : ∀ o, Below w.heap.size w (w.alloc o) := fun o => (Below.refl _ _).alloc (Nat.le_refl _) o
  have hbd : 0 ≤ (delB xs).1 ∧ (delB xs).1 ≤ 3000000000 := by
    unfold delB
    split
    · rename_i h
      have h1 := seqB_bd h
      have h2 := seqB_len h
      have := sumW_bd (f := dlt) (m := 2016) (l := seqB xs) (by omega) (fun x hx => dlt_bd (h1 x hx).1 (h1 x hx).2)
      simp; omega
    · simp
  obtain ⟨A, n0, c, rfl, hnc, hcm, hrd⟩ := h
  clear hrd
  go_enter Try.func15, Try.ntmps15
  go_wp2_with fail
  refine (DeltaInvariant_any B _ xs _ (Hh.out.below ((hb1 _).mono hB)) (by simp; omega)).mono ?_
  rintro e w1 ⟨rfl, hb⟩
  have hw1 := (hb1 _).trans (hb.mono (by simp))
  clear hb
  go_wp2_with fail
  go_ret2
  exact ⟨rfl, hw1⟩
set_option maxHeartbeats 800000 in
theorem CountBlowUps_any (B : Nat) (v : Value) (xs : List Int) (w : World) (h : Is w B v xs) (hB : B ≤ w.heap.size) : Calls Try.prog 11 #[.agg #[v]] w fun e w' => e = .returned (.tuple #[.int .i64 (bluB xs).1, .int .i64 (bluB xs).2]) ∧ Below w.heap.size w w' := by
  have Hh := Lib.hid h
  have hb1 : ∀ o, Below w.heap.size w (w.alloc o) := fun o => (Below.refl _ _).alloc (Nat.le_refl _) o
  obtain ⟨A, n0, c, rfl, hnc, hcm, hrd⟩ := h
  clear hrd
  cases hR : isBr xs
  · have Hr := Lib.hid (show bluB xs = (0, 1) by unfold bluB; rw [hR]; rfl)
    go_enter Try.func11, Try.ntmps11
    go_wp2_with fail
    refine (IsBranch_any B _ xs _ (Hh.out.below ((hb1 _).mono hB)) (by simp; omega)).mono ?_
    rintro e w1 ⟨rfl, hb⟩
    rw [hR]
    have hw1 := (hb1 _).trans (hb.mono (by simp))
    clear hb
    go_wp2_with fail
    go_ret2
    exact ⟨by rw [Hr.out]; rfl, hw1⟩
  · have HR := Lib.hid hR
    have Hr := Lib.hid (show bluB xs = (sumW big1 (seqB xs), 0) by unfold bluB; rw [hR]; rfl)
    have Hsb := Lib.hid (seqB_bd hR)
    have hsl := seqB_len hR
    go_enter Try.func11, Try.ntmps11
    go_wp2_with fail
    refine (IsBranch_any B _ xs _ (Hh.out.below ((hb1 _).mono hB)) (by simp; omega)).mono ?_
    rintro e w0 ⟨rfl, hb⟩
    rw [hR]
    have hc1 : w0.cell? ⟨w.heap.size, 0, none⟩ = some (.slice A n0 c) := (hb.cell (p := ⟨w.heap.size, 0, none⟩) (by simp)).trans (by simp [go_sem])
    have hw0 := (hb1 _).trans (hb.mono (by simp))
    have hs0 := hw0.size
    clear hb hb1
    go_wp2_with fail
    refine (sequence_any B _ xs _ (Hh.out.below (hw0.mono hB)) (by omega) HR.out).mono ?_
    rintro e w1 ⟨v1, rfl, ow1, hb⟩
    have hw1 := hw0.trans (hb.mono hs0)
    have hs1 := hw1.size
    clear hb
    obtain ⟨ys, Hys⟩ : ∃ ys, Hid (seqB xs = ys) := ⟨_, Lib.hid rfl⟩
    rw [Hys.out] at ow1 Hsb hsl Hr
    obtain ⟨A1, n, c1, rfl, hnc1, hcm1, hrd⟩ := ow1.is
    have Hlen := Lib.hid hrd.len
    rw [Hlen.out] at hsl
    unfold maxLen at hcm1
    clear ow1
    go_wp2
    go_loop [4, 13] (fun u i => ∃ k : Nat, k ≤ n ∧ i = .int .i64 k ∧ u = .int .i64 (sumW big1 (ys.take k))) (fun _ i => n - (intOf i).toNat)
    case atStart => exact ⟨0, Nat.zero_le _, rfl, rfl⟩
    case round =>
      obtain ⟨k, hk, rfl, rfl⟩ := hrel
      have hsb := sumW_take_bd (f := big1) (m := 1) (ys := ys) (by omega) (fun x hx => by unfold big1; split <;> omega) k
      by_cases hlt : k < n
      · obtain ⟨ad, rfl, hab, hc⟩ := hrd.pos (by omega)
        have hcc : w1.cell? (ad.add k) = some (.int .i64 (gx ys k)) := hc k hlt
        have hi1 : 0 ≤ (k : Int) ∧ (k : Int) < (n : Int) := by omega
        have Hsn := Lib.hid (sumW_take big1 ys k (by rw [Hlen.out]; exact hlt))
        clear hc
        by_cases hg : 1 < gx ys k
        · have Hb := Lib.hid (show big1 (gx ys k) = 1 from if_pos hg)
          go_wp2
          go_round
          case rel => exact ⟨k + 1, by omega, by go_num, by rw [Hsn.out, Hb.out]⟩
          case measure => first | (simp [intOf]; done) | (simp [intOf]; omega)
        · have Hb := Lib.hid (show big1 (gx ys k) = 0 from if_neg hg)
          go_wp2
          go_round
          case rel => exact ⟨k + 1, by omega, by go_num, by rw [Hsn.out, Hb.out, Int.add_zero]⟩
          case measure => first | (simp [intOf]; done) | (simp [intOf]; omega)
      · obtain rfl : k = n := by omega
        have He := Lib.hid (show ys.take k = ys from List.take_of_length_le (Nat.le_of_eq Hlen.out))
        go_wp2
        go_ret2
        exact ⟨by rw [Hr.out, He.out]; rfl, hw1⟩
end WD
end Go.Proofs.Ytcnoaclijhcckaa
