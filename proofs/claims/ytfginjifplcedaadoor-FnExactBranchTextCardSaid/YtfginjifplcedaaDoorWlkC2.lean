/-
  WALKS, CHAPTER 3: is it a branch?
-/
import Derived.Test.YtfginjifplcedaaDoorWlkC1
namespace Go.Proofs.YtfginjifplcedaaDoor
open Go.RowKit
set_option linter.unusedVariables false
namespace WC
open K Pl WA
theorem asc_len {xs : List Int} (h : ascB xs = true) (hw : wiB xs 1 2000 = true) : xs.length ≤ 2000 := by
  unfold ascB at h; unfold wiB at hw
  rw [allF_true] at h hw
  have key : ∀ i, i < xs.length → (i : Int) + 1 ≤ gx xs i := by
    intro i
    induction i with
    | zero => intro hi; have := inR_true.1 (hw 0 (by omega) hi); omega
    | succ i ih =>
      intro hi
      have := ih (by omega)
      have h2 := h (i + 1) (by omega) hi
      simp at h2; omega
  rcases Nat.eq_zero_or_pos xs.length with h0 | h0
  · omega
  · have := key (xs.length - 1) (by omega)
    have := inR_true.1 (hw (xs.length - 1) (by omega) (by omega))
    omega
theorem wi_range {xs : List Int} (hw : wiB xs 1 2000 = true) : ∀ j, j < xs.length → 0 ≤ gx xs j ∧ gx xs j ≤ 9223372036854775807 := by
  unfold wiB at hw
  rw [allF_true] at hw
  intro j hj
  have := inR_true.1 (hw j (by omega) hj)
  omega
set_option maxHeartbeats 800000 in
theorem IsBranch_any (B : Nat) (v : Value) (xs : List Int) (w : World) (h : Is w B v xs) (hB : B ≤ w.heap.size) : Calls Tryd.prog 13 #[.agg #[v]] w fun e w' => e = .returned (.bool (isBr xs)) ∧ Below w.heap.size w w' := by
  have Hi := Lib.hid (isBr_impl (xs := xs))
  have Hh := Lib.hid h
  obtain ⟨A, n, c, rfl, hnc, hcm, hrd⟩ := h
  have Hlen := Lib.hid hrd.len
  unfold maxLen at hcm
  by_cases hn : n = 0
  · have hg : ¬ (0 : Int) < (n : Int) := by omega
    have Hres := Lib.hid (isBr_len (xs := xs) (by rw [Hlen.out]; exact hn))
    clear hn
    go_enter Tryd.func13, Tryd.ntmps13
    go_wp2_with fail
    go_ret
    exact ⟨ret_b Hres.out.symm, (Below.refl _ _).alloc (Nat.le_refl _) _⟩
  · have hg : (0 : Int) < (n : Int) := by omega
    have Hd := Lib.hid (show decide (0 < xs.length) = true by rw [Hlen.out]; simp; omega)
    obtain ⟨ad, rfl, hab, hc⟩ := hrd.pos (by omega)
    have hc0 : ∀ o, (w.alloc o).cell? ad = some (.int .i64 (gx xs 0)) := fun o => (World.cell?_alloc_lt w o _ (by omega)).trans (by have := hc 0 (by omega); simpa [Addr.add] using this)
    clear hn hc hrd
    cases hH : inR (gx xs 0) 1 64
    · have Hres := Lib.hid (isBr_head hH)
      go_enter Tryd.func13, Tryd.ntmps13
      go_wp2_with (go_at_call 19; refine (inRange_any _ _ _ _).mono ?_; rintro e w' ⟨rfl, rfl⟩)
      go_ret
      exact ⟨ret_b Hres.out.symm, (Below.refl _ _).alloc (Nat.le_refl _) _⟩
    · cases hA : ascB xs
      · have Hres := Lib.hid (show isBr xs = false by rw [Hi.out, Hd.out, hH, hA]; rfl)
        go_enter Tryd.func13, Tryd.ntmps13
        go_wp2_with (go_at_call 19; refine (inRange_any _ _ _ _).mono ?_; rintro e w' ⟨rfl, rfl⟩)
        refine (ascends_any B _ xs _ (Hh.out.below (((Below.refl _ _).alloc (Nat.le_refl _) _).mono hB)) (by simp; omega)).mono ?_
        rintro e w1 ⟨rfl, hb1⟩
        rw [hA]
        go_wp2_with fail
        go_ret
        exact ⟨ret_b Hres.out.symm, ((Below.refl _ _).alloc (Nat.le_refl _) _).trans (hb1.mono (by simp))⟩
      · cases hW : wiB xs 1 2000
        · have Hres := Lib.hid (show isBr xs = false by rw [Hi.out, Hd.out, hH, hA, hW]; rfl)
          go_enter Tryd.func13, Tryd.ntmps13
          go_wp2_with (go_at_call 19; refine (inRange_any _ _ _ _).mono ?_; rintro e w' ⟨rfl, rfl⟩)
          refine (ascends_any B _ xs _ (Hh.out.below (((Below.refl _ _).alloc (Nat.le_refl _) _).mono hB)) (by simp; omega)).mono ?_
          rintro e w1 ⟨rfl, hb1⟩
          rw [hA]
          have hw1 : Below w.heap.size w w1 := ((Below.refl _ _).alloc (Nat.le_refl _) _).trans (hb1.mono (by simp))
          have hs1 := hw1.size
          clear hb1
          go_wp2_with fail
          refine (within_any B _ xs _ _ _ (Hh.out.below (hw1.mono hB)) (by omega)).mono ?_
          rintro e w2 ⟨rfl, rfl⟩
          rw [hW]
          go_wp2_with fail
          go_ret
          exact ⟨ret_b Hres.out.symm, hw1⟩
        · have Hres := Lib.hid (show isBr xs = falB xs by rw [Hi.out, Hd.out, hH, hA, hW]; rfl)
          have Hl := Lib.hid (show xs.length ≤ 1000000000 by have := asc_len hA hW; omega)
          have Hr := Lib.hid (wi_range hW)
          have Hp := Lib.hid (show 0 < xs.length by rw [Hlen.out]; omega)
          go_enter Tryd.func13, Tryd.ntmps13
          go_wp2_with (go_at_call 19; refine (inRange_any _ _ _ _).mono ?_; rintro e w' ⟨rfl, rfl⟩)
          refine (ascends_any B _ xs _ (Hh.out.below (((Below.refl _ _).alloc (Nat.le_refl _) _).mono hB)) (by simp; omega)).mono ?_
          rintro e w1 ⟨rfl, hb1⟩
          rw [hA]
          have hw1 : Below w.heap.size w w1 := ((Below.refl _ _).alloc (Nat.le_refl _) _).trans (hb1.mono (by simp))
          have hs1 := hw1.size
          clear hb1
          go_wp2_with fail
          refine (within_any B _ xs _ _ _ (Hh.out.below (hw1.mono hB)) (by omega)).mono ?_
          rintro e w2 ⟨rfl, rfl⟩
          rw [hW]
          go_wp2_with fail
          refine (falls_any B _ xs _ (Hh.out.below (hw1.mono hB)) (by omega) Hl.out Hp.out Hr).mono ?_
          rintro e w2 ⟨rfl, hb2⟩
          go_wp2_with fail
          go_ret
          exact ⟨ret_b Hres.out.symm, hw1.trans (hb2.mono hs1)⟩
set_option maxHeartbeats 800000 in
theorem l03Is_any (B : Nat) (v : Value) (xs : List Int) (w : World) (h : Is w B v xs) (hB : B ≤ w.heap.size) : Calls Tryd.prog 10 #[.agg #[v]] w fun e w' => e = .returned (.bool (isBr xs)) ∧ Below w.heap.size w w' := by
  obtain ⟨A, n, c, rfl, hnc, hcm, hrd⟩ := h
  have Hlen := Lib.hid hrd.len
  unfold maxLen at hcm
  by_cases hn : n = 0
  · have hg : ((n : Int) == 0) = true := by simp; omega
    have Hres := Lib.hid (isBr_len (xs := xs) (by rw [Hlen.out]; exact hn))
    clear hn
    go_enter Tryd.func10, Tryd.ntmps10
    go_wp2_with fail
    go_ret
    exact ⟨ret_b Hres.out.symm, (Below.refl _ _).alloc (Nat.le_refl _) _⟩
  · have hg : ((n : Int) == 0) = false := by simp; omega
    have hn1 : 1 ≤ n := by omega
    obtain ⟨ad, rfl, hab, hc⟩ := hrd.pos (by omega)
    have Hc := Lib.hid hc
    have hc0 : ∀ o, (w.alloc o).cell? ad = some (.int .i64 (gx xs 0)) := fun o => (World.cell?_alloc_lt w o _ (by omega)).trans (by have := hc 0 (by omega); simpa [Addr.add] using this)
    clear hn hc hrd
    cases hH : inR (gx xs 0) 1 64
    · have Hres := Lib.hid (isBr_head hH)
      go_enter Tryd.func10, Tryd.ntmps10
      go_wp2_with (go_at_call 16; refine (l01In_any _ _ _ _).mono ?_; rintro e w' ⟨rfl, rfl⟩)
      go_ret
      exact ⟨ret_b Hres.out.symm, (Below.refl _ _).alloc (Nat.le_refl _) _⟩
    · have h0 := inR_true.1 hH
      have Hp := Lib.hid (dg_pos xs h0.1)
      have Hle := Lib.hid (dg_le xs h0.1)
      have Hrun := Lib.hid (fun hh => isBr_run (xs := xs) (by rw [Hlen.out]; omega) hH hh)
      have H1 := Lib.hid (dg_one xs (by omega))
      have hb0 : ∀ o, Below w.heap.size w (w.alloc o) := fun o => (Below.refl _ _).alloc (Nat.le_refl _) o
      go_enter Tryd.func10, Tryd.ntmps10
      go_wp2_with (go_at_call 16; refine (l01In_any _ _ _ _).mono ?_; rintro e w' ⟨rfl, rfl⟩)
      go_loopw [4, 5] (fun u i wr => ∃ k : Nat, 1 ≤ k ∧ k ≤ n ∧ i = .int .i64 k ∧ u = .int .i64 (dg xs k) ∧ Hid (∀ j, 1 ≤ j → j < k → okT xs j = true) ∧ 1 ≤ gx xs (k - 1) ∧ gx xs (k - 1) ≤ 2000 ∧ Below w.heap.size w wr) (fun _ i _ => n - (intOf i).toNat)
      case atStart => exact ⟨1, by omega, hn1, rfl, by rw [H1.out], Lib.hid (fun j h1 h2 => by omega), h0.1, by show gx xs 0 ≤ 2000; omega, hb0 _⟩
      case round =>
        clear hc0 hb0
        obtain ⟨k, hk1, hk, rfl, rfl, hpre, hg1, hg2, hbe⟩ := hrel
        have hd1 := Hp.out k hk1
        have hd2 := Hle.out k hk1
        by_cases hlt : k < n
        · have hc1 : wr.cell? (ad.add k) = some (.int .i64 (gx xs k)) := (hbe.cell (by rw [block_of_add]; omega)).trans (Hc.out k hlt)
          have hc2 : wr.cell? (ad.add (k - 1)) = some (.int .i64 (gx xs (k - 1))) := (hbe.cell (by rw [block_of_add]; omega)).trans (Hc.out (k - 1) (by omega))
          have hi1 : 0 ≤ (k : Int) ∧ (k : Int) < (n : Int) := by omega
          have hi2 : 0 ≤ (k : Int) - 1 ∧ (k : Int) - 1 < (n : Int) := by omega
          cases hR : inR (gx xs k) (gx xs (k - 1) + 1) 2000
          · have Hres := Lib.hid (isBr_step (xs := xs) k hk1 (by rw [Hlen.out]; exact hlt) (by unfold okT; rw [hR]; rfl))
            have hwr : IntKind.i64.wrap (gx xs (k - 1) + 1) = gx xs (k - 1) + 1 := IntWalk.i64_in _ (by omega)
            go_wp2_with fail
            go_quiet ((go_at_call 16; exact Calls.quiet_of_same ((l01In_any _ _ _ _).mono fun _ _ h => ⟨h.1, h.2.symm⟩)))
            rw [hR]
            go_wp2
            go_ret
            exact ⟨ret_b Hres.out.symm, below_drewN hbe _⟩
          · have hr := inR_true.1 hR
            by_cases he : dg xs (k + 1) = dg xs k
            · have Hres := Lib.hid (isBr_step (xs := xs) k hk1 (by rw [Hlen.out]; exact hlt) (by unfold okT; simp [he]))
              have hte : (dg xs (k + 1) == dg xs k) = true := by simp [he]
              have hwr : IntKind.i64.wrap (gx xs (k - 1) + 1) = gx xs (k - 1) + 1 := IntWalk.i64_in _ (by omega)
              clear he
              go_wp2_with fail
              go_quiet ((go_at_call 16; exact Calls.quiet_of_same ((l01In_any _ _ _ _).mono fun _ _ h => ⟨h.1, h.2.symm⟩)))
              rw [hR]
              clear hwr
              go_wp2_with fail
              refine (l01Gcd_any _ _ _ (by omega) (by omega) (by omega) (by omega)).mono ?_
              rintro e w' ⟨rfl, rfl⟩
              rw [← dg_succ]
              go_wp2_with fail
              go_ret
              exact ⟨ret_b Hres.out.symm, below_drewN hbe _⟩
            · have hte : (dg xs (k + 1) == dg xs k) = false := by simp [he]
              have hwr : IntKind.i64.wrap (gx xs (k - 1) + 1) = gx xs (k - 1) + 1 := IntWalk.i64_in _ (by omega)
              have Hpre2 := Lib.hid (show ∀ j, 1 ≤ j → j < k + 1 → okT xs j = true from fun j h1 h2 => by
                rcases Nat.lt_or_ge j k with h3 | h3
                · exact hpre.out j h1 h3
                · obtain rfl : j = k := by omega
                  unfold okT; rw [hR]; simp [he])
              clear he
              go_wp2_with fail
              go_quiet ((go_at_call 16; exact Calls.quiet_of_same ((l01In_any _ _ _ _).mono fun _ _ h => ⟨h.1, h.2.symm⟩)))
              rw [hR]
              clear hwr
              go_wp2_with fail
              refine (l01Gcd_any _ _ _ (by omega) (by omega) (by omega) (by omega)).mono ?_
              rintro e w' ⟨rfl, rfl⟩
              rw [← dg_succ]
              go_wp2_with fail
              go_roundw
              case rel => exact ⟨k + 1, by omega, by omega, by go_num, rfl, Hpre2, by show 1 ≤ gx xs k; omega, by show gx xs k ≤ 2000; omega, below_drewN hbe _⟩
              case measure => first | (simp [intOf]; done) | (simp [intOf]; omega)
        · obtain rfl : k = n := by omega
          have Hres := Lib.hid (show isBr xs = (dg xs k == 1) by rw [Hrun.out fun i h1 h2 => hpre.out i h1 (by rw [Hlen.out] at h2; exact h2), Hlen.out])
          go_wp2
          go_ret
          exact ⟨ret_b Hres.out.symm, hbe⟩
end WC
end Go.Proofs.YtfginjifplcedaaDoor
