/-
  WALKS, CHAPTER 1: which fraction is less; the common divisor of a list.
-/
import Derived.Test.YtdgjjmkpninnoaaDoorWlkA5
namespace Go.Proofs.YtdgjjmkpninnoaaDoor
open Go.RowKit
set_option linter.unusedVariables false
namespace WA
open K Pl
set_option maxHeartbeats 1600000 in
theorem CompareFractions_any (t b u c : Int) (w : World) : Calls Tryd.prog 10 #[.agg #[.int .i64 t, .int .i64 b], .agg #[.int .i64 u, .int .i64 c]] w fun e w' => e = .returned (.tuple #[.int .i64 (cmpF t b u c).1, .int .i64 (cmpF t b u c).2]) ∧ Below w.heap.size w w' := by
  cases hA : isFr t b
  · have Hn := Lib.hid (show cmpF t b u c = (0, 1) by unfold cmpF; rw [hA]; rfl)
    go_enter Tryd.func10, Tryd.ntmps10
    go_wp2_with fail
    refine (isFraction_any _ _ _).mono ?_
    rintro e w1 ⟨rfl, hb1⟩
    rw [hA]
    have x0 := (hb1.cell (p := ⟨w.heap.size, 0, none⟩) (by simp; try omega)).trans (by simp [go_sem] : _ = some (Value.int .i64 t))
    have x1 := (hb1.cell (p := ⟨w.heap.size, 1, none⟩) (by simp; try omega)).trans (by simp [go_sem] : _ = some (Value.int .i64 b))
    have y0 := (hb1.cell (p := ⟨w.heap.size + 1, 0, none⟩) (by simp; try omega)).trans (by simp [go_sem] : _ = some (Value.int .i64 u))
    have y1 := (hb1.cell (p := ⟨w.heap.size + 1, 1, none⟩) (by simp; try omega)).trans (by simp [go_sem] : _ = some (Value.int .i64 c))
    have hs1 : w.heap.size + 2 ≤ w1.heap.size := by have := hb1.size; simp at this; omega
    have hw1 : Below w.heap.size w w1 := (((Below.refl _ _).alloc (Nat.le_refl _) _).alloc (by simp) _).trans (hb1.mono (by simp; omega))
    clear hb1
    go_wp2_with fail
    go_ret2
    exact ⟨by rw [Hn.out]; rfl, hw1⟩
  · have bA := isFr_bd hA
    cases hB : isFr u c
    · have Hn := Lib.hid (show cmpF t b u c = (0, 1) by unfold cmpF; rw [hA, hB]; rfl)
      go_enter Tryd.func10, Tryd.ntmps10
      go_wp2_with fail
      refine (isFraction_any _ _ _).mono ?_
      rintro e w1 ⟨rfl, hb1⟩
      rw [hA]
      have x0 := (hb1.cell (p := ⟨w.heap.size, 0, none⟩) (by simp; try omega)).trans (by simp [go_sem] : _ = some (Value.int .i64 t))
      have x1 := (hb1.cell (p := ⟨w.heap.size, 1, none⟩) (by simp; try omega)).trans (by simp [go_sem] : _ = some (Value.int .i64 b))
      have y0 := (hb1.cell (p := ⟨w.heap.size + 1, 0, none⟩) (by simp; try omega)).trans (by simp [go_sem] : _ = some (Value.int .i64 u))
      have y1 := (hb1.cell (p := ⟨w.heap.size + 1, 1, none⟩) (by simp; try omega)).trans (by simp [go_sem] : _ = some (Value.int .i64 c))
      have hs1 : w.heap.size + 2 ≤ w1.heap.size := by have := hb1.size; simp at this; omega
      have hw1 : Below w.heap.size w w1 := (((Below.refl _ _).alloc (Nat.le_refl _) _).alloc (by simp) _).trans (hb1.mono (by simp; omega))
      clear hb1
      go_wp2_with fail
      refine (isFraction_any _ _ _).mono ?_
      rintro e w2 ⟨rfl, hb2⟩
      rw [hB]
      replace x0 := (hb2.cell (p := ⟨w.heap.size, 0, none⟩) (by show w.heap.size < w1.heap.size; omega)).trans x0
      replace x1 := (hb2.cell (p := ⟨w.heap.size, 1, none⟩) (by show w.heap.size < w1.heap.size; omega)).trans x1
      replace y0 := (hb2.cell (p := ⟨w.heap.size + 1, 0, none⟩) (by show w.heap.size + 1 < w1.heap.size; omega)).trans y0
      replace y1 := (hb2.cell (p := ⟨w.heap.size + 1, 1, none⟩) (by show w.heap.size + 1 < w1.heap.size; omega)).trans y1
      have hs2 : w.heap.size + 2 ≤ w2.heap.size := by have := hb2.size; omega
      have hw2 : Below w.heap.size w w2 := hw1.trans (hb2.mono hw1.size)
      clear hb2 hw1
      go_wp2_with fail
      go_ret2
      exact ⟨by rw [Hn.out]; rfl, hw2⟩
    · have bB := isFr_bd hB
      have Hn := Lib.hid (show cmpF t b u c = (cmpI (t * c) (u * b), 0) by unfold cmpF; rw [hA, hB]; rfl)
      have m1 := mul_bd2 t c (by omega) (by omega) (by omega) (by omega)
      have m2 := mul_bd2 u b (by omega) (by omega) (by omega) (by omega)
      go_enter Tryd.func10, Tryd.ntmps10
      go_wp2_with fail
      refine (isFraction_any _ _ _).mono ?_
      rintro e w1 ⟨rfl, hb1⟩
      rw [hA]
      have x0 := (hb1.cell (p := ⟨w.heap.size, 0, none⟩) (by simp; try omega)).trans (by simp [go_sem] : _ = some (Value.int .i64 t))
      have x1 := (hb1.cell (p := ⟨w.heap.size, 1, none⟩) (by simp; try omega)).trans (by simp [go_sem] : _ = some (Value.int .i64 b))
      have y0 := (hb1.cell (p := ⟨w.heap.size + 1, 0, none⟩) (by simp; try omega)).trans (by simp [go_sem] : _ = some (Value.int .i64 u))
      have y1 := (hb1.cell (p := ⟨w.heap.size + 1, 1, none⟩) (by simp; try omega)).trans (by simp [go_sem] : _ = some (Value.int .i64 c))
      have hs1 : w.heap.size + 2 ≤ w1.heap.size := by have := hb1.size; simp at this; omega
      have hw1 : Below w.heap.size w w1 := (((Below.refl _ _).alloc (Nat.le_refl _) _).alloc (by simp) _).trans (hb1.mono (by simp; omega))
      clear hb1
      go_wp2_with fail
      refine (isFraction_any _ _ _).mono ?_
      rintro e w2 ⟨rfl, hb2⟩
      rw [hB]
      replace x0 := (hb2.cell (p := ⟨w.heap.size, 0, none⟩) (by show w.heap.size < w1.heap.size; omega)).trans x0
      replace x1 := (hb2.cell (p := ⟨w.heap.size, 1, none⟩) (by show w.heap.size < w1.heap.size; omega)).trans x1
      replace y0 := (hb2.cell (p := ⟨w.heap.size + 1, 0, none⟩) (by show w.heap.size + 1 < w1.heap.size; omega)).trans y0
      replace y1 := (hb2.cell (p := ⟨w.heap.size + 1, 1, none⟩) (by show w.heap.size + 1 < w1.heap.size; omega)).trans y1
      have hs2 : w.heap.size + 2 ≤ w2.heap.size := by have := hb2.size; omega
      have hw2 : Below w.heap.size w w2 := hw1.trans (hb2.mono hw1.size)
      clear hb2 hw1
      go_wp2_with fail
      refine (compared_any _ _ _).mono ?_
      rintro e w3 ⟨rfl, rfl⟩
      go_wp2_with fail
      go_ret2
      exact ⟨by rw [Hn.out]; rfl, hw2⟩
set_option maxHeartbeats 800000 in
theorem CommonDivisorOf_any (B : Nat) (v : Value) (xs : List Int) (w : World) (h : Is w B v xs) (hB : B ≤ w.heap.size) : Calls Tryd.prog 17 #[v] w fun e w' => e = .returned (.tuple #[.int .i64 (cdvOf xs).1, .int .i64 (cdvOf xs).2]) ∧ Below w.heap.size w w' := by
  obtain ⟨A, n, c, rfl, hnc, hcm, hrd⟩ := h
  have Hlen := Lib.hid hrd.len
  unfold maxLen at hcm
  by_cases hl : 64 < n
  · have Hr := Lib.hid (show cdvOf xs = (0, 2) by unfold cdvOf; rw [Hlen.out, if_pos hl])
    go_enter Tryd.func17, Tryd.ntmps17
    go_wp2
    go_ret2
    exact ⟨by rw [Hr.out]; rfl, Below.refl _ _⟩
  · have Hr := Lib.hid (show cdvOf xs = cdvL 0 xs by unfold cdvOf; rw [Hlen.out, if_neg hl])
    go_enter Tryd.func17, Tryd.ntmps17
    go_wp2
    go_loopw [4, 12] (fun s i wr => ∃ (k : Nat) (d : Int), k ≤ n ∧ i = .int .i64 k ∧ s = .int .i64 d ∧ 0 ≤ d ∧ d ≤ 1000000000 ∧ Hid (cdvL d (xs.drop k) = cdvL 0 xs) ∧ Below w.heap.size w wr) (fun _ i _ => n - (intOf i).toNat)
    case atStart => exact ⟨0, 0, Nat.zero_le _, rfl, rfl, by omega, by omega, Lib.hid rfl, Below.refl _ _⟩
    case round =>
      obtain ⟨k, d, hk, rfl, rfl, hd0, hd1, hst, hbe⟩ := hrel
      by_cases hlt : k < n
      · obtain ⟨ad, rfl, hab, hc⟩ := hrd.pos (by omega)
        have hc1 : wr.cell? (ad.add k) = some (.int .i64 (gx xs k)) := (hbe.cell (by rw [block_of_add]; omega)).trans (hc k hlt)
        have hdrop := drop_gx xs k (by rw [Hlen.out]; exact hlt)
        clear hc
        cases hI : isInt (gx xs k)
        · have Hres := Lib.hid (show cdvOf xs = (0, 2) by rw [Hr.out, ← hst.out, hdrop, cdvL, hI]; rfl)
          clear hdrop
          go_wp2_with (go_at_call 32; refine (isInteger_any _ _).mono ?_; rintro e w' ⟨rfl, rfl⟩)
          go_ret2
          exact ⟨by rw [Hres.out]; rfl, hbe⟩
        · have bI := isInt_true.1 hI
          have Hnew := Lib.hid (show cdvL (gcdI d (gx xs k)) (xs.drop (k + 1)) = cdvL 0 xs by rw [← hst.out, hdrop, cdvL, hI]; rfl)
          have hg0 := gcdI_nonneg d (gx xs k)
          have hg1 : gcdI d (gx xs k) ≤ 1000000000 := gcdI_le2 d (gx xs k) 1000000000 (by omega) (by omega) (by omega) (by omega)
          clear hdrop
          go_wp2_with (go_at_call 32; refine (isInteger_any _ _).mono ?_; rintro e w' ⟨rfl, rfl⟩)
          refine (divisor_any _ _ _ (by omega) (by omega) (by omega) (by omega)).mono ?_
          rintro e w2 ⟨rfl, hb2⟩
          have hbe2 := hbe.trans (hb2.mono hbe.size)
          clear hb2 hbe
          go_wp2_with fail
          go_roundw
          case rel => exact ⟨k + 1, _, by omega, by go_num, rfl, hg0, hg1, Hnew, hbe2⟩
          case measure => first | (simp [intOf]; done) | (simp [intOf]; omega)
      · have hkn : k = n := by omega
        subst hkn
        have Hres := Lib.hid (show cdvOf xs = (d, 0) by rw [Hr.out, ← hst.out, List.drop_of_length_le (by rw [Hlen.out]; exact Nat.le_refl _)]; rfl)
        go_wp2
        go_ret2
        exact ⟨by rw [Hres.out]; rfl, hbe⟩
set_option maxHeartbeats 800000 in
theorem sCommonDivisorOf_any (B : Nat) (v : Value) (xs : List Int) (w : World) (h : Is w B v xs) (hB : B ≤ w.heap.size) : Calls Tryd.prog 18 #[v] w fun e w' => e = .returned (.tuple #[.int .i64 (cdvOf xs).1, .int .i64 (cdvOf xs).2]) ∧ Below w.heap.size w w' := by
  obtain ⟨A, n, c, rfl, hnc, hcm, hrd⟩ := h
  have Hlen := Lib.hid hrd.len
  unfold maxLen at hcm
  by_cases hl : 64 < n
  · have Hr := Lib.hid (show cdvOf xs = (0, 2) by unfold cdvOf; rw [Hlen.out, if_pos hl])
    go_enter Tryd.func18, Tryd.ntmps18
    go_wp2
    go_ret2
    exact ⟨by rw [Hr.out]; rfl, Below.refl _ _⟩
  · have Hr := Lib.hid (show cdvOf xs = cdvL 0 xs by unfold cdvOf; rw [Hlen.out, if_neg hl])
    go_enter Tryd.func18, Tryd.ntmps18
    go_wp2
    go_loopw [4, 5] (fun s i wr => ∃ (k : Nat) (d : Int), k ≤ n ∧ i = .int .i64 k ∧ s = .int .i64 d ∧ 0 ≤ d ∧ d ≤ 1000000000 ∧ Hid (cdvL d (xs.drop k) = cdvL 0 xs) ∧ Below w.heap.size w wr) (fun _ i _ => n - (intOf i).toNat)
    case atStart => exact ⟨0, 0, Nat.zero_le _, rfl, rfl, by omega, by omega, Lib.hid rfl, Below.refl _ _⟩
    case round =>
      obtain ⟨k, d, hk, rfl, rfl, hd0, hd1, hst, hbe⟩ := hrel
      by_cases hlt : k < n
      · obtain ⟨ad, rfl, hab, hc⟩ := hrd.pos (by omega)
        have hc1 : wr.cell? (ad.add k) = some (.int .i64 (gx xs k)) := (hbe.cell (by rw [block_of_add]; omega)).trans (hc k hlt)
        have hdrop := drop_gx xs k (by rw [Hlen.out]; exact hlt)
        clear hc
        cases hI : isInt (gx xs k)
        · have Hres := Lib.hid (show cdvOf xs = (0, 2) by rw [Hr.out, ← hst.out, hdrop, cdvL, hI]; rfl)
          clear hdrop
          go_wp2_with (go_at_call 33; refine (l01Integer_any _ _).mono ?_; rintro e w' ⟨rfl, rfl⟩)
          go_ret2
          exact ⟨by rw [Hres.out]; rfl, hbe⟩
        · have bI := isInt_true.1 hI
          have Hnew := Lib.hid (show cdvL (gcdI d (gx xs k)) (xs.drop (k + 1)) = cdvL 0 xs by rw [← hst.out, hdrop, cdvL, hI]; rfl)
          have hg0 := gcdI_nonneg d (gx xs k)
          have hg1 : gcdI d (gx xs k) ≤ 1000000000 := gcdI_le2 d (gx xs k) 1000000000 (by omega) (by omega) (by omega) (by omega)
          clear hdrop
          go_wp2_with (go_at_call 33; refine (l01Integer_any _ _).mono ?_; rintro e w' ⟨rfl, rfl⟩)
          refine (l01Gcd_any _ _ _ (by omega) (by omega) (by omega) (by omega)).mono ?_
          rintro e w2 ⟨rfl, rfl⟩
          have hbe2 := hbe
          go_wp2_with fail
          go_roundw
          case rel => exact ⟨k + 1, _, by omega, by go_num, rfl, hg0, hg1, Hnew, hbe2⟩
          case measure => first | (simp [intOf]; done) | (simp [intOf]; omega)
      · have hkn : k = n := by omega
        subst hkn
        have Hres := Lib.hid (show cdvOf xs = (d, 0) by rw [Hr.out, ← hst.out, List.drop_of_length_le (by rw [Hlen.out]; exact Nat.le_refl _)]; rfl)
        go_wp2
        go_ret2
        exact ⟨by rw [Hres.out]; rfl, hbe⟩
end WA
end Go.Proofs.YtdgjjmkpninnoaaDoor
