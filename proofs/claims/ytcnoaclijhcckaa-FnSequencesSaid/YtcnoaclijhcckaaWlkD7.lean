/-
  WALKS, CHAPTER 4: long sequences, the callers.
-/
import Derived.Test.YtcnoaclijhcckaaWlkD6
namespace Go.Proofs.Ytcnoaclijhcckaa
open Go.RowKit
set_option linter.unusedVariables false
namespace WD
open K Pl WA WC
theorem lngC_no {xs : List Int} {m : Int} (h : isBr xs = false) : lngC xs m = 1 := by unfold lngC; rw [h]; rfl
theorem lngC_out {xs : List Int} {m : Int} (h : isBr xs = true) (h2 : inR m 0 400 = false) : lngC xs m = 2 := by unfold lngC; rw [h, h2]; rfl
theorem lngC_big {xs : List Int} {m : Int} (h : isBr xs = true) (h2 : inR m 0 400 = true) (h3 : 400 < ((seqB xs).length : Int) + m) : lngC xs m = 3 := by unfold lngC; rw [h, h2]; simp [h3]
theorem lngC_ok {xs : List Int} {m : Int} (h : isBr xs = true) (h2 : inR m 0 400 = true) (h3 : ¬ 400 < ((seqB xs).length : Int) + m) : lngC xs m = 0 := by unfold lngC; rw [h, h2]; simp [h3]
theorem lngB_bad {xs : List Int} {m c : Int} (h : lngC xs m = c) (hc : c ≠ 0) : lngB xs m = ([], c) := by unfold lngB; rw [h, if_neg hc]
theorem lngB_ok {xs : List Int} {m : Int} (h : lngC xs m = 0) : lngB xs m = (seqB xs ++ ones m.toNat, 0) := by unfold lngB; rw [if_pos h]
theorem lngC_bool {xs : List Int} {m : Int} (h : lngC xs m = 0) : isBr xs = true ∧ 0 ≤ m ∧ m ≤ 400 := by
  unfold lngC at h
  split at h
  · rename_i h1
    split at h
    · rename_i h2; have := inR_true.1 h2; exact ⟨h1, this.1, this.2⟩
    · cases h
  · cases h
set_option maxHeartbeats 800000 in
theorem l04Long_any (B : Nat) (v : Value) (xs : List Int) (m : Int) (w : World) (h : Is w B v xs) (hB : B ≤ w.heap.size) :
    Calls Try.prog 30 #[.agg #[v], .int .i64 m] w fun e w' => e = .returned (.int .i64 (lngC xs m)) ∧ Below w.heap.size w w' := by
  have Hh := Lib.hid h
  have hb1 : ∀ o, Below w.heap.size w (w.alloc o) := fun o => (Below.refl _ _).alloc (Nat.le_refl _) o
  obtain ⟨A, n, c, rfl, hnc, hcm, hrd⟩ := h
  clear hrd
  cases hR : isBr xs
  · have Hr := Lib.hid (lngC_no (m := m) hR)
    go_enter Try.func30, Try.ntmps30
    go_wp2_with fail
    refine (l03Is_any B _ xs _ (Hh.out.below ((hb1 _).mono hB)) (by simp; omega)).mono ?_
    rintro e w1 ⟨rfl, hb⟩
    rw [hR]
    have hw1 := (hb1 _).trans (hb.mono (by simp))
    clear hb
    go_wp2_with fail
    go_ret
    exact ⟨ret_i Hr.out.symm, hw1⟩
  · have HR := Lib.hid hR
    cases hK : inR m 0 400
    · have Hr := Lib.hid (lngC_out (m := m) hR hK)
      go_enter Try.func30, Try.ntmps30
      go_wp2_with fail
      refine (l03Is_any B _ xs _ (Hh.out.below ((hb1 _).mono hB)) (by simp; omega)).mono ?_
      rintro e w1 ⟨rfl, hb⟩
      rw [hR]
      have hw1 := (hb1 _).trans (hb.mono (by simp))
      clear hb
      go_wp2_with fail
      refine (l01In_any _ _ _ _).mono ?_
      rintro e w' ⟨rfl, rfl⟩
      rw [hK]
      go_wp2_with fail
      go_ret
      exact ⟨ret_i Hr.out.symm, hw1⟩
    · have hk := inR_true.1 hK
      have hsl := seqB_len hR
      by_cases hbig : 400 < ((seqB xs).length : Int) + m
      all_goals
        first
          | have Hr := Lib.hid (lngC_big (m := m) hR hK hbig)
          | have Hr := Lib.hid (lngC_ok (m := m) hR hK hbig)
        go_enter Try.func30, Try.ntmps30
        go_wp2_with fail
        refine (l03Is_any B _ xs _ (Hh.out.below ((hb1 _).mono hB)) (by simp; omega)).mono ?_
        rintro e w1 ⟨rfl, hb⟩
        rw [hR]
        have hc1 : w1.cell? ⟨w.heap.size, 0, none⟩ = some (.slice A n c) := (hb.cell (p := ⟨w.heap.size, 0, none⟩) (by simp)).trans (by simp [go_sem])
        have hw1 := (hb1 _).trans (hb.mono (by simp))
        have hs1 := hw1.size
        clear hb
        go_wp2_with fail
        refine (l01In_any _ _ _ _).mono ?_
        rintro e w' ⟨rfl, rfl⟩
        rw [hK]
        go_wp2_with fail
        refine (l04Count_any B _ xs _ (Hh.out.below (hw1.mono hB)) (by omega) HR.out).mono ?_
        rintro e w2 ⟨rfl, hb⟩
        have hw2 := hw1.trans (hb.mono hs1)
        clear hb
        go_wp2_with fail
        go_ret
        exact ⟨ret_i Hr.out.symm, hw2⟩
set_option maxHeartbeats 800000 in
theorem sLongSequence_any (B : Nat) (v : Value) (xs : List Int) (m : Int) (w : World) (h : Is w B v xs) (hB : B ≤ w.heap.size) : Calls Try.prog 18 #[.agg #[v], .int .i64 m] w (Li2C (lngB xs m) w) := by
  have Hh := Lib.hid h
  have hb1 : ∀ o, Below w.heap.size w (w.alloc o) := fun o => (Below.refl _ _).alloc (Nat.le_refl _) o
  obtain ⟨A, n, c, rfl, hnc, hcm, hrd⟩ := h
  clear hrd
  by_cases h0 : lngC xs m = 0
  · have hz : (lngC xs m != 0) = false := by simp [h0]
    have Hr := Lib.hid (lngB_ok h0)
    obtain ⟨hR, hm0, hm4⟩ := lngC_bool h0
    obtain ⟨mo, rfl⟩ := Int.eq_ofNat_of_zero_le hm0
    have HR := Lib.hid hR
    clear h0 hR
    go_enter Try.func18, Try.ntmps18
    go_wp2_with fail
    refine (l04Long_any B _ xs _ _ (Hh.out.below ((hb1 _).mono hB)) (by simp; omega)).mono ?_
    rintro e w1 ⟨rfl, hb⟩
    have hc1 : w1.cell? ⟨w.heap.size, 0, none⟩ = some (.slice A n c) := (hb.cell (p := ⟨w.heap.size, 0, none⟩) (by simp)).trans (by simp [go_sem])
    have hw1 := (hb1 _).trans (hb.mono (by simp))
    have hs1 := hw1.size
    clear hb
    go_wp2_with fail
    refine (l04Full_any B _ xs mo _ (Hh.out.below (hw1.mono hB)) (by omega) HR.out (by omega)).mono ?_
    rintro e w2 ⟨v2, rfl, ow2, hb⟩
    have hw2 := hw1.trans (hb.mono hs1)
    have Ho := Lib.hid (OwC.of_ow (ow2.wide hs1 (Nat.le_refl _)))
    clear hb ow2
    go_wp2_with fail
    go_ret2
    exact ⟨v2, by rw [Hr.out]; rfl, by rw [Hr.out]; exact Ho.out, hw2⟩
  · have hz : (lngC xs m != 0) = true := by simp [h0]
    have Hr := Lib.hid (lngB_bad (m := m) (xs := xs) rfl h0)
    clear h0
    go_enter Try.func18, Try.ntmps18
    go_wp2_with fail
    refine (l04Long_any B _ xs _ _ (Hh.out.below ((hb1 _).mono hB)) (by simp; omega)).mono ?_
    rintro e w1 ⟨rfl, hb⟩
    have hw1 := (hb1 _).trans (hb.mono (by simp))
    clear hb
    go_wp2_with fail
    go_ret2
    exact Li2C.nil Hr.out hw1
set_option maxHeartbeats 1600000 in
theorem firstOf_any (B : Nat) (v : Value) (xs : List Int) (mo : Nat) (w : World) (h : Is w B v xs) (hB : B ≤ w.heap.size) (hR : isBr xs = true) (hmo : mo ≤ 400) :
    Calls Try.prog 44 #[.agg #[v], .int .i64 (((seqB xs).length : Int) + (mo : Int))] w fun e w' => ∃ v', e = .returned v' ∧ OwC w' w.heap.size w'.heap.size v' (seqB xs ++ ones mo) ∧ Below w.heap.size w w' := by
  have Hh := Lib.hid h
  have HR := Lib.hid hR
  have hb1 : ∀ o, Below w.heap.size w (w.alloc o) := fun o => (Below.refl _ _).alloc (Nat.le_refl _) o
  have hsl := seqB_len hR
  obtain ⟨A, n, c, rfl, hnc, hcm, hrd⟩ := h
  obtain ⟨L, HL⟩ : ∃ L, Hid ((seqB xs).length = L) := ⟨_, Lib.hid rfl⟩
  rw [HL.out] at hsl ⊢
  clear hrd hR
  go_enter Try.func44, Try.ntmps44
  go_wp2_with fail
  refine (sequence_any B _ xs _ (Hh.out.below ((hb1 _).mono hB)) (by simp; omega) HR.out).mono ?_
  rintro e w1 ⟨v1, rfl, ow1, hb⟩
  have hw1 := (hb1 _).trans (hb.mono (by simp))
  have hs1 := hw1.size
  have ow := ow1.wide (lo' := w.heap.size) (hi' := w1.heap.size) (by simp) (Nat.le_refl _)
  obtain ⟨A1, c1, rfl, hl1, hl2⟩ := ow.shape
  have ho := ow.1
  rw [HL.out] at ho hl1 ⊢
  have Ho := Lib.hid ho
  clear hb ow1 ow ho hb1
  go_wp2
  go_loopw [5] (fun u wr => ∃ (j m : Nat) (A6 : Option Addr) (c6 : Nat), j ≤ mo ∧ u = .slice A6 m c6 ∧ 1 ≤ m ∧ m ≤ 2000000 ∧ m ≤ c6 ∧ c6 ≤ 9223372036854775807 ∧ Hid (m = L + j) ∧ Hid (wr.ownsRow w.heap.size 2 1 (.slice A6 m c6) m ((seqB xs ++ ones j).map (Value.int .i64))) ∧ Below w.heap.size w wr) (fun u _ => L + mo - (match u with | .slice _ n _ => n | _ => 0))
  case atStart => exact ⟨0, L, A1, c1, by omega, rfl, hsl.1, by omega, hl1, hl2, Lib.hid rfl, Lib.hid (by simpa [ones] using Ho.out), hw1⟩
  case round =>
    obtain ⟨j, m, A6, c6, hj, rfl, hm1, hm9, hmc, hc6, hm, hown, hbe⟩ := hrel
    have hs := hbe.size
    by_cases hlt : j < mo
    · have hlt2 : (m : Int) < (L : Int) + (mo : Int) := by have := hm.out; omega
      have Hon := Lib.hid (show seqB xs ++ ones (j + 1) = seqB xs ++ ones j ++ [1] by rw [ones_succ, List.append_assoc])
      have hmj : m ≤ 1500000 := by have := hm.out; omega
      go_wp2_with (at_builtin; refine wp_append_i rfl _ _ rfl w.heap.size _ m _ rfl (hown.out.alloc _) wr.heap.size 1 1 rfl (by simp) (by omega) (by simp; omega) ?_)
      intro g' cap' w2 hown2 hgrow hat hlt3
      obtain ⟨hcap, hcapm⟩ : m + 1 ≤ cap' ∧ cap' ≤ 9223372036854775807 := by
        obtain ⟨A', c', e, h1, h2⟩ := own_shape hown2
        cases e; exact ⟨h1, h2⟩
      have hbe2 : Below w.heap.size w w2 := (hbe.alloc (by omega) _).grown hgrow (by simp; omega) (fun k' e => (hown.out.lt k' e).1)
      have Hown2 := Lib.hid (show w2.ownsRow w.heap.size 2 1 (.slice (some ⟨g', 0, none⟩) (m + 1) cap') (m + 1) ((seqB xs ++ ones (j + 1)).map (Value.int .i64)) by rw [Hon.out]; simpa using hown2)
      have Hm2 := Lib.hid (show m + 1 = L + (j + 1) by rw [hm.out]; omega)
      have Hms := Lib.hid (show L + mo - (m + 1) < L + mo - m by have := hm.out; omega)
      clear hown hown2 hgrow hat hbe hm
      go_wp2
      go_roundw
      case rel => exact ⟨j + 1, m + 1, _, _, by omega, rfl, by omega, by omega, hcap, hcapm, Hm2, Hown2, hbe2⟩
      case measure => exact Hms.out
    · obtain rfl : j = mo := by omega
      have hlt2 : ¬ (m : Int) < (L : Int) + (j : Int) := by have := hm.out; omega
      have Hmm := Lib.hid (show (L : Int) + (j : Int) = (m : Int) by have := hm.out; omega)
      obtain ⟨g, c8, e8⟩ := Go.Joins.ownsRow_form hown.out (by omega)
      cases e8
      have Hx := Lib.hid (show (seqB xs ++ ones j).length = m by simp [ones, HL.out, hm.out])
      rw [Hmm.out]
      go_wp2
      go_ret
      refine ⟨_, rfl, ⟨_, m, m, c6, rfl, Nat.le_refl _, hmc, ?_⟩, hbe⟩
      have h9 := hown.out
      exact ⟨by rw [Hx.out]; exact h9, fun k hk => (h9.lt k hk).2⟩
set_option maxHeartbeats 800000 in
theorem LongSequence_any (B : Nat) (v : Value) (xs : List Int) (m : Int) (w : World) (h : Is w B v xs) (hB : B ≤ w.heap.size) : Calls Try.prog 17 #[.agg #[v], .int .i64 m] w (Li2C (lngB xs m) w) := by
  have Hh := Lib.hid h
  have hb1 : ∀ o, Below w.heap.size w (w.alloc o) := fun o => (Below.refl _ _).alloc (Nat.le_refl _) o
  obtain ⟨A, n, c, rfl, hnc, hcm, hrd⟩ := h
  clear hrd
  cases hR : isBr xs
  · have Hr := Lib.hid (lngB_bad (lngC_no (m := m) hR) (by decide))
    go_enter Try.func17, Try.ntmps17
    go_wp2_with fail
    refine (IsBranch_any B _ xs _ (Hh.out.below ((hb1 _).mono hB)) (by simp; omega)).mono ?_
    rintro e w1 ⟨rfl, hb⟩
    rw [hR]
    have hw1 := (hb1 _).trans (hb.mono (by simp))
    clear hb
    go_wp2_with fail
    go_ret2
    exact Li2C.nil Hr.out hw1
  · have HR := Lib.hid hR
    cases hK : inR m 0 400
    · have Hr := Lib.hid (lngB_bad (lngC_out (m := m) hR hK) (by decide))
      go_enter Try.func17, Try.ntmps17
      go_wp2_with fail
      refine (IsBranch_any B _ xs _ (Hh.out.below ((hb1 _).mono hB)) (by simp; omega)).mono ?_
      rintro e w1 ⟨rfl, hb⟩
      rw [hR]
      have hw1 := (hb1 _).trans (hb.mono (by simp))
      clear hb
      go_wp2_with fail
      refine (inRange_any _ _ _ _).mono ?_
      rintro e w' ⟨rfl, rfl⟩
      rw [hK]
      go_wp2_with fail
      go_ret2
      exact Li2C.nil Hr.out hw1
    · have hk := inR_true.1 hK
      obtain ⟨mo, rfl⟩ := Int.eq_ofNat_of_zero_le hk.1
      have hsl := seqB_len hR
      by_cases hbig : 400 < ((seqB xs).length : Int) + (mo : Int)
      · have Hr := Lib.hid (lngB_bad (lngC_big hR hK hbig) (by decide))
        go_enter Try.func17, Try.ntmps17
        go_wp2_with fail
        refine (IsBranch_any B _ xs _ (Hh.out.below ((hb1 _).mono hB)) (by simp; omega)).mono ?_
        rintro e w1 ⟨rfl, hb⟩
        rw [hR]
        have hc1 : w1.cell? ⟨w.heap.size, 0, none⟩ = some (.slice A n c) := (hb.cell (p := ⟨w.heap.size, 0, none⟩) (by simp)).trans (by simp [go_sem])
        have hw1 := (hb1 _).trans (hb.mono (by simp))
        have hs1 := hw1.size
        clear hb
        go_wp2_with fail
        refine (inRange_any _ _ _ _).mono ?_
        rintro e w' ⟨rfl, rfl⟩
        rw [hK]
        go_wp2_with fail
        refine (sequence_any B _ xs _ (Hh.out.below (hw1.mono hB)) (by omega) HR.out).mono ?_
        rintro e w2 ⟨v2, rfl, ow2, hb⟩
        obtain ⟨A1, c1, rfl, hl1, hl2⟩ := ow2.shape
        have hw2 := hw1.trans (hb.mono hs1)
        clear hb ow2
        go_wp2_with fail
        go_ret2
        exact Li2C.nil Hr.out hw2
      · have Hr := Lib.hid (lngB_ok (lngC_ok hR hK hbig))
        go_enter Try.func17, Try.ntmps17
        go_wp2_with fail
        refine (IsBranch_any B _ xs _ (Hh.out.below ((hb1 _).mono hB)) (by simp; omega)).mono ?_
        rintro e w1 ⟨rfl, hb⟩
        rw [hR]
        have hc1 : w1.cell? ⟨w.heap.size, 0, none⟩ = some (.slice A n c) := (hb.cell (p := ⟨w.heap.size, 0, none⟩) (by simp)).trans (by simp [go_sem])
        have hbl : w.heap.size < w1.heap.size := World.block_lt_of_cell? w1 ⟨w.heap.size, 0, none⟩ hc1
        have hw1 := (hb1 _).trans (hb.mono (by simp))
        have hs1 := hw1.size
        clear hb
        go_wp2_with fail
        refine (inRange_any _ _ _ _).mono ?_
        rintro e w' ⟨rfl, rfl⟩
        rw [hK]
        go_wp2_with fail
        refine (sequence_any B _ xs _ (Hh.out.below (hw1.mono hB)) (by omega) HR.out).mono ?_
        rintro e w2 ⟨v2, rfl, ow2, hb⟩
        obtain ⟨A1, c1, rfl, hl1, hl2⟩ := ow2.shape
        have hc2 : w2.cell? ⟨w.heap.size, 0, none⟩ = some (.slice A n c) := (hb.cell (p := ⟨w.heap.size, 0, none⟩) hbl).trans hc1
        have hw2 := hw1.trans (hb.mono hs1)
        have hs2 := hw2.size
        clear hb ow2
        go_wp2_with fail
        refine (firstOf_any B _ xs mo _ (Hh.out.below (hw2.mono hB)) (by omega) HR.out (by omega)).mono ?_
        rintro e w3 ⟨v3, rfl, ow3, hb⟩
        have hw3 := hw2.trans (hb.mono hs2)
        have Ho := Lib.hid (ow3.wide hs2 (Nat.le_refl _))
        clear hb ow3
        go_wp2_with fail
        go_ret2
        exact ⟨v3, by rw [Hr.out]; rfl, by rw [Hr.out]; exact Ho.out, hw3⟩
set_option maxHeartbeats 400000 in
theorem SequenceOf_any (B : Nat) (v : Value) (xs : List Int) (w : World) (h : Is w B v xs) (hB : B ≤ w.heap.size) : Calls Try.prog 14 #[.agg #[v]] w (Li2C (lngB xs 0) w) := by
  have Hh := Lib.hid h
  have hb1 : ∀ o, Below w.heap.size w (w.alloc o) := fun o => (Below.refl _ _).alloc (Nat.le_refl _) o
  obtain ⟨A, n, c, rfl, hnc, hcm, hrd⟩ := h
  clear hrd
  go_enter Try.func14, Try.ntmps14
  go_wp2_with fail
  refine (LongSequence_any B _ xs _ _ (Hh.out.below ((hb1 _).mono hB)) (by simp; omega)).mono ?_
  rintro e w1 ⟨v1, rfl, ow1, hb⟩
  have hw1 := (hb1 _).trans (hb.mono (by simp))
  have Ho := Lib.hid (ow1.wide (lo' := w.heap.size) (by simp) (Nat.le_refl _))
  clear hb ow1
  go_wp2_with fail
  go_ret2
  exact ⟨v1, rfl, Ho.out, hw1⟩
end WD
end Go.Proofs.Ytcnoaclijhcckaa
