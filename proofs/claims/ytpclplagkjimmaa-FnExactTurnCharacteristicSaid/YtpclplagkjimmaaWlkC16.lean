/-
  WALKS, CHAPTER 3: turned characteristics by the reference.
-/
import Derived.Test.YtpclplagkjimmaaWlkC15
import Derived.Deep.CutRange
namespace Go.Proofs.Ytpclplagkjimmaa
open Go.RowKit
set_option linter.unusedVariables false
namespace WC
open K Pl WA WL
theorem tu_short {xs : List Int} (h : xs.length < 2) : isTu xs = false := by
  cases hT : isTu xs
  · rfl
  · have := (isTu_true.1 hT).1; omega
theorem tu_hd0 {xs : List Int} (h : inR (gx xs 0) 2 64 = false) : isTu xs = false := by unfold isTu; rw [h]; simp
theorem tu_hd1 {xs : List Int} (h : inR (gx xs 1) 1 (gx xs 0 - 1) = false) : isTu xs = false := by unfold isTu; rw [h]; simp
theorem tu_bad {xs : List Int} (i : Nat) (h1 : 1 ≤ i) (h2 : i < xs.length) (h : okU xs i = false) : isTu xs = false := by
  cases hT : isTu xs
  · rfl
  · have := (isTu_true.1 hT).2.2.2.1 i h1 h2; rw [h] at this; cases this
theorem okU_bad {xs : List Int} {i : Nat} (h : dg xs (i + 1) = dg xs i ∨ 2000 < gx xs i ∨ (2 ≤ i ∧ gx xs i ≤ gx xs (i - 1))) : okU xs i = false := by
  cases hT : okU xs i
  · rfl
  · obtain ⟨a, b, c⟩ := okU_true.1 hT
    rcases h with h | h | h
    · exact absurd h a
    · omega
    · have := c h.1; omega
set_option maxHeartbeats 12800000 in
theorem sTurnCharacteristic_any (B : Nat) (v : Value) (xs : List Int) (w : World) (h : Is w B v xs) (hB : B ≤ w.heap.size) (hwf : Hid (∀ n ∈ xs, (Lit.int .i64 n).wf = true)) : Calls Try.prog 33 #[v] w (LiB (tcB xs) w) := by
  have Hwf := Lib.hid (show ∀ i, i < xs.length → -9223372036854775808 ≤ gx xs i ∧ gx xs i ≤ 9223372036854775807 from fun i hi => by
    have := hwf.out (gx xs i) (by rw [gx_eq _ _ hi]; exact List.getElem_mem hi)
    simp [Lit.wf, IntKind.min, IntKind.max, IntKind.signed, IntKind.bits] at this
    omega)
  have hb1 : ∀ o, Below w.heap.size w (w.alloc o) := fun o => (Below.refl _ _).alloc (Nat.le_refl _) o
  obtain ⟨A, n, c, rfl, hnc, hcm, hrd⟩ := h
  have Hlen := Lib.hid hrd.len
  unfold maxLen at hcm
  have hcr0 : (w.alloc (.cells #[.slice none 0 0] 27)).cell? ⟨w.heap.size, 0, none⟩ = some (.slice none 0 0) := by simp [go_sem]
  have hfr0 : (w.alloc (.cells #[.slice none 0 0] 27)).frozen? ⟨w.heap.size, 0, none⟩ = false := by simp [go_sem]
  have hw0 : Below w.heap.size w (w.alloc (.cells #[.slice none 0 0] 27)) := hb1 _
  clear hwf
  by_cases hn2 : n < 2
  · have Hr := Lib.hid (tcB_no (tu_short (xs := xs) (by rw [Hlen.out]; exact hn2)))
    have hl2 : decide ((n : Int) < 2) = true := by simp; omega
    have hl2' : (n : Int) < 2 := by omega
    clear hrd hb1
    go_enter Try.func33, Try.ntmps33
    go_wp2_with fail
    generalize hwr0 : w.alloc (.cells #[.slice none 0 0] 27) = wr at *
    have hcr := hcr0; have hfr := hfr0; have hwr := hw0; clear hcr0 hfr0 hw0
    obtain ⟨n1, n2⟩ := res_none (b := w.heap.size) hcr (by omega) hwr
    have N1 := Lib.hid n1; have N2 := Lib.hid n2
    clear n1 n2
    go_quiet (fail)
    go_wp2
    refine bodyPost_ret (v := .tuple #[.agg #[.slice none 0 0], .int .i64 2]) ?_ rfl (LiB.nil Hr.out ⟨N2.out.os, N2.out.tape, N2.out.output, N2.out.size, N2.out.block⟩)
    have n1 : ((wr.drewN nq).setCell ⟨w.heap.size, 0, none⟩ (.slice none 0 0)).cell? ⟨w.heap.size, 0, none⟩ = some (.slice none 0 0) := N1.out
    simp [results, Try.results33, go_sem, n1]
  · have h2 : 2 ≤ n := by omega
    obtain ⟨ad, rfl, hab, hc⟩ := hrd.pos (by omega)
    have hl2 : decide ((n : Int) < 2) = false := by simp; omega
    have hl2' : ¬ (n : Int) < 2 := by omega
    have hl3 : (2 : Int) ≤ (n : Int) := by omega
    have hi0 : (0 : Int) < (n : Int) := by omega
    have hi1 : (1 : Int) < (n : Int) := by omega
    have hn0 : 0 < n := by omega
    have hn1 : 1 < n := by omega
    have Hc := Lib.hid (show ∀ j, j < n → (w.alloc (.cells #[.slice none 0 0] 27)).cell? (ad.add j) = some (.int .i64 (gx xs j)) from fun j hj => (hw0.cell (by rw [block_of_add]; omega)).trans (hc j hj))
    have hd0 : (w.alloc (.cells #[.slice none 0 0] 27)).cell? ad = some (.int .i64 (gx xs 0)) := by have := Hc.out 0 (by omega); simpa [Addr.add] using this
    have hd1 : (w.alloc (.cells #[.slice none 0 0] 27)).cell? ⟨ad.block, ad.off + 1, none⟩ = some (.int .i64 (gx xs 1)) := by have := Hc.out 1 (by omega); simpa [Addr.add] using this
    clear hc hrd hb1
    cases hX : inR (gx xs 0) 2 64
    · have Hr := Lib.hid (tcB_no (tu_hd0 hX))
      have HX := Lib.hid hX
      clear hX
      go_enter Try.func33, Try.ntmps33
      go_wp2_with fail
      generalize hwr0 : w.alloc (.cells #[.slice none 0 0] 27) = wr at *
      have hcr := hcr0; have hfr := hfr0; have hwr := hw0; clear hcr0 hfr0 hw0
      obtain ⟨n1, n2⟩ := res_none (b := w.heap.size) hcr (by omega) hwr
      have N1 := Lib.hid n1; have N2 := Lib.hid n2
      clear n1 n2
      go_quiet ((go_at_call 57; exact Calls.quiet_of_same (l01In_b _ _ _ _ HX.out)))
      go_wp2
      refine bodyPost_ret (v := .tuple #[.agg #[.slice none 0 0], .int .i64 2]) ?_ rfl (LiB.nil Hr.out ⟨N2.out.os, N2.out.tape, N2.out.output, N2.out.size, N2.out.block⟩)
      have n1 : ((wr.drewN nq).setCell ⟨w.heap.size, 0, none⟩ (.slice none 0 0)).cell? ⟨w.heap.size, 0, none⟩ = some (.slice none 0 0) := N1.out
      simp [results, Try.results33, go_sem, n1]
    · have hx := inR_true.1 hX
      have hwx : IntKind.i64.wrap (gx xs 0 - 1) = gx xs 0 - 1 := IntWalk.i64_in _ (by omega)
      have HX := Lib.hid hX
      cases hY : inR (gx xs 1) 1 (gx xs 0 - 1)
      · have Hr := Lib.hid (tcB_no (tu_hd1 hY))
        have HY := Lib.hid hY
        have HY2 := Lib.hid (show inR (gx xs 1) 1 (IntKind.i64.wrap (gx xs 0 - 1)) = false by rw [hwx]; exact hY)
        clear hX hY
        go_enter Try.func33, Try.ntmps33
        go_wp2_with fail
        generalize hwr0 : w.alloc (.cells #[.slice none 0 0] 27) = wr at *
        have hcr := hcr0; have hfr := hfr0; have hwr := hw0; clear hcr0 hfr0 hw0
        obtain ⟨n1, n2⟩ := res_none (b := w.heap.size) hcr (by omega) hwr
        have N1 := Lib.hid n1; have N2 := Lib.hid n2
        clear n1 n2
        go_quiet ((go_at_call 57; first | exact Calls.quiet_of_same (l01In_b _ _ _ _ HX.out) | exact Calls.quiet_of_same (l01In_b _ _ _ _ HY2.out) | exact Calls.quiet_of_same (l01In_b _ _ _ _ HY.out)))
        go_wp2
        refine bodyPost_ret (v := .tuple #[.agg #[.slice none 0 0], .int .i64 2]) ?_ rfl (LiB.nil Hr.out ⟨N2.out.os, N2.out.tape, N2.out.output, N2.out.size, N2.out.block⟩)
        have n1 : ((wr.drewN nq).setCell ⟨w.heap.size, 0, none⟩ (.slice none 0 0)).cell? ⟨w.heap.size, 0, none⟩ = some (.slice none 0 0) := N1.out
        simp [results, Try.results33, go_sem, n1]
      · have hy := inR_true.1 hY
        have HY := Lib.hid hY
        have HY2 := Lib.hid (show inR (gx xs 1) 1 (IntKind.i64.wrap (gx xs 0 - 1)) = true by rw [hwx]; exact hY)
        have H1 := Lib.hid (dg_one xs (by omega))
        have Hp := Lib.hid (dg_pos xs (show 1 ≤ gx xs 0 by omega))
        have Hle := Lib.hid (dg_le xs (show 1 ≤ gx xs 0 by omega))
        clear hX hY
        go_enter Try.func33, Try.ntmps33
        go_wp2_with fail
        generalize hwr0 : w.alloc (.cells #[.slice none 0 0] 27) = W0 at *
        clear hwr0
        go_quiet ((go_at_call 57; first | exact Calls.quiet_of_same (l01In_b _ _ _ _ HX.out) | exact Calls.quiet_of_same (l01In_b _ _ _ _ HY2.out) | exact Calls.quiet_of_same (l01In_b _ _ _ _ HY.out)))
        obtain ⟨W1, hW1⟩ : ∃ W1, W1 = W0.drewN nq := ⟨_, rfl⟩
        rw [← hW1]
        have hcr1 : W1.cell? ⟨w.heap.size, 0, none⟩ = some (.slice none 0 0) := by rw [hW1]; exact hcr0
        have hfr1 : W1.frozen? ⟨w.heap.size, 0, none⟩ = false := by rw [hW1]; exact hfr0
        have hw1 : Below w.heap.size w W1 := by rw [hW1]; exact below_drewN hw0 _
        have Hc1 := Lib.hid (show ∀ j, j < n → W1.cell? (ad.add j) = some (.int .i64 (gx xs j)) from fun j hj => by rw [hW1]; exact Hc.out j hj)
        have he0 : W1.cell? ad = some (.int .i64 (gx xs 0)) := by rw [hW1]; exact hd0
        clear hW1 hd0 hd1 hw0 hcr0 hfr0 Hc hwx
        go_wp2
        go_loopw [4, 5] (fun u i wr => ∃ k : Nat, 1 ≤ k ∧ k ≤ n ∧ i = .int .i64 (k : Int) ∧ u = .int .i64 (dg xs k) ∧ Hid (∀ j, 1 ≤ j → j < k → okU xs j = true) ∧ 1 ≤ gx xs (k - 1) ∧ Drawn2 W1 wr) (fun _ i _ => n - (intOf i).toNat)
        case atStart => exact ⟨1, by omega, by omega, rfl, by rw [H1.out], Lib.hid (fun j h1 h2 => by omega), by show 1 ≤ gx xs 0; omega, Drawn2.refl _⟩
        case round =>
          clear he0
          obtain ⟨k, hk1, hk, rfl, rfl, hpre, hg1, hdw⟩ := hrel
          have hd1 := Hp.out k hk1
          have hd2 := Hle.out k hk1
          have hcr := (hdw.cell ⟨w.heap.size, 0, none⟩).trans hcr1
          have hfr := (hdw.frozen ⟨w.heap.size, 0, none⟩).trans hfr1
          have hwr := hw1.trans (hdw.below _)
          have hsr1 : w.heap.size + 1 ≤ wr.heap.size := World.block_lt_of_cell? wr ⟨w.heap.size, 0, none⟩ hcr
          by_cases hlt : k < n
          · have hc1 : wr.cell? (ad.add k) = some (.int .i64 (gx xs k)) := (hdw.cell _).trans (Hc1.out k hlt)
            have hc2 : wr.cell? (ad.add (k - 1)) = some (.int .i64 (gx xs (k - 1))) := (hdw.cell _).trans (Hc1.out (k - 1) (by omega))
            have hik : 0 ≤ (k : Int) ∧ (k : Int) < (n : Int) := by omega
            have hik2 : 0 ≤ (k : Int) - 1 ∧ (k : Int) - 1 < (n : Int) := by omega
            have hik3 : (1 : Int) ≤ (k : Int) := by omega
            have hwk : IntKind.i64.wrap ((k : Int) - 1) = (k : Int) - 1 := IntWalk.i64_in _ (by omega)
            have hwf := Hwf.out k (by rw [Hlen.out]; exact hlt)
            by_cases hmin : gx xs k = -9223372036854775808
            · have hk2 : 2 ≤ k := by
                rcases Nat.lt_or_ge k 2 with h | h
                · obtain rfl : k = 1 := by omega
                  omega
                · exact h
              have Hr := Lib.hid (tcB_no (tu_bad k hk1 (by rw [Hlen.out]; exact hlt) (okU_bad (.inr (.inr ⟨hk2, by omega⟩)))))
              have hee : (dg xs k == dg xs k) = true := by simp
              rw [hmin] at hc1
              go_wp2_with fail
              refine (l01Gcd_least _ _ (by omega) (by omega)).mono ?_
              rintro e w' ⟨rfl, rfl⟩
              obtain ⟨n1, n2⟩ := res_none (b := w.heap.size) hcr (by omega) hwr
              have N1 := Lib.hid n1; have N2 := Lib.hid n2
              clear n1 n2
              go_wp2_with fail
              go_quiet (fail)
              go_wp2
              refine bodyPost_ret (v := .tuple #[.agg #[.slice none 0 0], .int .i64 2]) ?_ rfl (LiB.nil Hr.out ⟨N2.out.os, N2.out.tape, N2.out.output, N2.out.size, N2.out.block⟩)
              have n1 : ((wr.drewN nq).setCell ⟨w.heap.size, 0, none⟩ (.slice none 0 0)).cell? ⟨w.heap.size, 0, none⟩ = some (.slice none 0 0) := N1.out
              simp [results, Try.results33, go_sem, n1]
            · by_cases he : dg xs (k + 1) = dg xs k
              · have Hr := Lib.hid (tcB_no (tu_bad k hk1 (by rw [Hlen.out]; exact hlt) (okU_bad (.inl he))))
                have hee : (dg xs (k + 1) == dg xs k) = true := by simp [he]
                go_wp2_with fail
                refine (l01Gcd_any _ _ _ (by omega) (by omega) (by omega) (by omega)).mono ?_
                rintro e w' ⟨rfl, rfl⟩
                rw [← dg_succ]
                clear he
                obtain ⟨n1, n2⟩ := res_none (b := w.heap.size) hcr (by omega) hwr
                have N1 := Lib.hid n1; have N2 := Lib.hid n2
                clear n1 n2
                go_wp2_with fail
                go_quiet (fail)
                go_wp2
                refine bodyPost_ret (v := .tuple #[.agg #[.slice none 0 0], .int .i64 2]) ?_ rfl (LiB.nil Hr.out ⟨N2.out.os, N2.out.tape, N2.out.output, N2.out.size, N2.out.block⟩)
                have n1 : ((wr.drewN nq).setCell ⟨w.heap.size, 0, none⟩ (.slice none 0 0)).cell? ⟨w.heap.size, 0, none⟩ = some (.slice none 0 0) := N1.out
                simp [results, Try.results33, go_sem, n1]
              · have hee : (dg xs (k + 1) == dg xs k) = false := by simp [he]
                go_wp2_with fail
                refine (l01Gcd_any _ _ _ (by omega) (by omega) (by omega) (by omega)).mono ?_
                rintro e w' ⟨rfl, rfl⟩
                rw [← dg_succ]
                by_cases hbig : 2000 < gx xs k
                · have Hr := Lib.hid (tcB_no (tu_bad k hk1 (by rw [Hlen.out]; exact hlt) (okU_bad (.inr (.inl hbig)))))
                  have hbd : decide (2000 < gx xs k) = true := by simpa using hbig
                  clear he
                  obtain ⟨n1, n2⟩ := res_none (b := w.heap.size) hcr (by omega) hwr
                  have N1 := Lib.hid n1; have N2 := Lib.hid n2
                  clear n1 n2
                  go_wp2_with fail
                  go_quiet (fail)
                  go_wp2
                  refine bodyPost_ret (v := .tuple #[.agg #[.slice none 0 0], .int .i64 2]) ?_ rfl (LiB.nil Hr.out ⟨N2.out.os, N2.out.tape, N2.out.output, N2.out.size, N2.out.block⟩)
                  have n1 : ((wr.drewN nq).setCell ⟨w.heap.size, 0, none⟩ (.slice none 0 0)).cell? ⟨w.heap.size, 0, none⟩ = some (.slice none 0 0) := N1.out
                  simp [results, Try.results33, go_sem, n1]
                · have hbd : decide (2000 < gx xs k) = false := by simpa using hbig
                  by_cases hk1' : k = 1
                  · have hg0 : ¬ (1 : Int) < (k : Int) := by omega
                    have hgd : decide ((1 : Int) < (k : Int)) = false := by simpa using hg0
                    have hgn : ¬ 1 < k := by omega
                    have hgd2 : decide (1 < k) = false := by simpa using hgn
                    have Hg2 := Lib.hid (show 1 ≤ gx xs k by rw [hk1']; omega)
                    have Hpre2 := Lib.hid (show ∀ j, 1 ≤ j → j < k + 1 → okU xs j = true from fun j h1 h2 => by
                      obtain rfl : j = k := by omega
                      exact okU_true.2 ⟨he, by omega, fun h => by omega⟩)
                    clear hk1' he
                    go_wp2_with fail
                    go_quiet (fail)
                    go_wp2
                    go_roundw
                    case rel => exact ⟨k + 1, by omega, by omega, by go_num, rfl, Hpre2, by simpa using Hg2.out, hdw.drewN _⟩
                    case measure => first | (simp [intOf]; done) | (simp [intOf]; omega)
                  · have hg0 : (1 : Int) < (k : Int) := by omega
                    have hgn : 1 < k := by omega
                    by_cases hle : gx xs k ≤ gx xs (k - 1)
                    · have Hr := Lib.hid (tcB_no (tu_bad k hk1 (by rw [Hlen.out]; exact hlt) (okU_bad (.inr (.inr ⟨by omega, hle⟩)))))
                      clear hk1' he
                      obtain ⟨n1, n2⟩ := res_none (b := w.heap.size) hcr (by omega) hwr
                      have N1 := Lib.hid n1; have N2 := Lib.hid n2
                      clear n1 n2
                      go_wp2_with fail
                      go_quiet (fail)
                      go_wp2
                      refine bodyPost_ret (v := .tuple #[.agg #[.slice none 0 0], .int .i64 2]) ?_ rfl (LiB.nil Hr.out ⟨N2.out.os, N2.out.tape, N2.out.output, N2.out.size, N2.out.block⟩)
                      have n1 : ((wr.drewN nq).setCell ⟨w.heap.size, 0, none⟩ (.slice none 0 0)).cell? ⟨w.heap.size, 0, none⟩ = some (.slice none 0 0) := N1.out
                      simp [results, Try.results33, go_sem, n1]
                    · have Hg2 := Lib.hid (show 1 ≤ gx xs k by omega)
                      have Hpre2 := Lib.hid (show ∀ j, 1 ≤ j → j < k + 1 → okU xs j = true from fun j h1 h2 => by
                        rcases Nat.lt_or_ge j k with h3 | h3
                        · exact hpre.out j h1 h3
                        · obtain rfl : j = k := by omega
                          exact okU_true.2 ⟨he, by omega, fun h => by omega⟩)
                      clear hk1' he
                      go_wp2_with fail
                      go_quiet (fail)
                      go_wp2
                      go_roundw
                      case rel => exact ⟨k + 1, by omega, by omega, by go_num, rfl, Hpre2, by simpa using Hg2.out, hdw.drewN _⟩
                      case measure => first | (simp [intOf]; done) | (simp [intOf]; omega)
          · obtain rfl : k = n := by omega
            by_cases h1 : dg xs k = 1
            · have HT := Lib.hid (show isTu xs = true from isTu_true.2 ⟨by rw [Hlen.out]; exact h2, hx, hy, fun i a b => hpre.out i a (by rw [Hlen.out] at b; exact b), by rw [Hlen.out]; exact h1⟩)
              have Hy := Lib.hid (tu_pos HT.out)
              have hHl := isTu_len HT.out
              rw [Hlen.out] at hHl
              have h1b : (dg xs k != 1) = false := by simp [h1]
              have Hdq := Lib.hid (show ∀ j, j < k → wr.cell? (ad.add j) = some (.int .i64 (gx xs j)) from fun j hj => (hdw.cell _).trans (Hc1.out j hj))
              have hd0 : wr.cell? ad = some (.int .i64 (gx xs 0)) := by have := Hdq.out 0 (by omega); simpa [Addr.add] using this
              have hd1' : wr.cell? ⟨ad.block, ad.off + 1, none⟩ = some (.int .i64 (gx xs 1)) := by have := Hdq.out 1 (by omega); simpa [Addr.add] using this
              clear hd1
              have hd1 := hd1'; clear hd1'
              have hsw := hwr.size
              clear hpre hdw hcr1 hfr1 hw1 Hc1 hg1 hlt hd2 H1
              obtain ⟨w1, rfl⟩ : ∃ w1 : World, w1 = wr := ⟨_, rfl⟩
              have hv0 := Lib.hid (show Bv ((w1.alloc (.cells #[.int .i64 (gx xs 1)] 2)).alloc (.cells #[.slice (some ⟨w1.heap.size, 0, none⟩) 1 1] 27)) (w1.heap.size + 1) w1.heap.size (some ⟨w1.heap.size, 0, none⟩) 1 1 [gx xs 1] from Bv.lit w1 (gx xs 1) (Nat.le_refl _))
              have hbe0 : Below w1.heap.size w1 ((w1.alloc (.cells #[.int .i64 (gx xs 1)] 2)).alloc (.cells #[.slice (some ⟨w1.heap.size, 0, none⟩) 1 1] 27)) := ((Below.refl _ _).alloc (Nat.le_refl _) _).alloc (by simp) _
              have hbl : ad.block < w1.heap.size := Nat.lt_of_lt_of_le hab (Nat.le_trans hB hwr.size)
              have hz0 := (hbe0.cell hbl).trans hd0
              have hz1 := (hbe0.cell (p := ⟨ad.block, ad.off + 1, none⟩) hbl).trans hd1
              have hd1z : ¬ gx xs 1 = 0 := by omega
              have hp1 : 1 ≤ gx xs 1 := hy.1
              have hp0 : 0 ≤ gx xs 0 := by omega
              have hpt : (gx xs 0).tmod (gx xs 1) = gx xs 0 % gx xs 1 := Int.tmod_eq_emod_of_nonneg hp0
              clear h1
              go_wp2_with fail
              obtain ⟨bm, hbm⟩ : ∃ bm : Bool, (gx xs 0 % gx xs 1 != 0) = bm := ⟨_, rfl⟩
              have HBM := Lib.hid hbm
              go_quiet (fail)
              obtain ⟨wd, hwd⟩ : ∃ wd, wd = ((w1.alloc (.cells #[.int .i64 (gx xs 1)] 2)).alloc (.cells #[.slice (some ⟨w1.heap.size, 0, none⟩) 1 1] 27)).drewN nq := ⟨_, rfl⟩
              rw [← hwd]
              have hv1 := Lib.hid (show Bv wd (w1.heap.size + 1) w1.heap.size (some ⟨w1.heap.size, 0, none⟩) 1 1 [gx xs 1] by rw [hwd]; exact hv0.out.of_heap rfl)
              have hbe1 : Below w1.heap.size w1 wd := by rw [hwd]; exact below_drewN hbe0 _
              clear hwd hv0 hbe0 hz0 hz1 hpt hbm
              go_upto_if 89 with fail
              go_cut [7] from 82 to 97 (fun p wx => p = .pointer (some ⟨w1.heap.size + 1, 0, none⟩) ∧ ∃ (m : Nat) (A6 : Option Addr) (c6 : Nat), 1 ≤ m ∧ m ≤ 2 ∧ Hid (Bv wx (w1.heap.size + 1) w1.heap.size A6 m c6 (tcL xs 0)) ∧ Below w1.heap.size w1 wx)
              case first =>
                cases bm
                · have hmod : gx xs 0 % gx xs 1 = 0 := by have := HBM.out; simpa using this
                  have hv9 := Lib.hid (show Bv wd (w1.heap.size + 1) w1.heap.size (some ⟨w1.heap.size, 0, none⟩) 1 1 (tcL xs 0) by rw [tcL_zero, show tcH xs = [gx xs 1] by unfold tcH; rw [if_pos hmod]]; exact hv1.out)
                  clear hmod hv1
                  go_wp2
                  go_meet
                  exact ⟨rfl, 1, _, _, by omega, by omega, hv9, hbe1⟩
                · have hmod : gx xs 0 % gx xs 1 ≠ 0 := by have := HBM.out; simpa using this
                  have Hs1 := Lib.hid (show tcL xs 0 = [gx xs 1] ++ [gx xs 0] by rw [tcL_zero, show tcH xs = [gx xs 1, gx xs 0] by unfold tcH; rw [if_neg hmod]]; rfl)
                  have hx0c : wd.cell? ad = some (.int .i64 (gx xs 0)) := (hbe1.cell hbl).trans hd0
                  have hsd := hbe1.size
                  have hcx := hv1.out.cell
                  have hfx := hv1.out.free
                  have hbv := hv1.out.lt
                  clear hmod
                  go_wp2_with fail
                  go_region_law (first | (refine step_append_i (by rfl) _ _ (by rfl) w1.heap.size (.slice (some ⟨w1.heap.size, 0, none⟩) 1 1) 1 [gx xs 1] (by simp [Act.eval]) (hv1.out.own.alloc _) wd.heap.size (gx xs 0) 1 (by simp [Act.eval]) (by simp [go_sem]) (by omega) (by simp; omega) ?_; intro g' cap' w2 hown2 hgrow hat hlt3; obtain ⟨q1, q2⟩ := hv1.out.after hgrow rfl))
                  all_goals
                    have hv9 := Lib.hid (hv1.out.step hgrow rfl hown2 hat)
                    rw [← Hs1.out] at hv9
                    have hbe9 := hv1.out.below (Nat.le_succ _) (Nat.le_refl _) hbe1 hgrow ⟨rfl, rfl, rfl, rfl⟩ (.slice (some ⟨g', 0, none⟩) (1 + 1) cap')
                    clear hv1 hown2 hgrow hat hbe1 q1 q2 hcx hfx hx0c
                    go_wp2_with fail
                    go_meet
                    exact ⟨rfl, 2, _, _, by omega, by omega, hv9, hbe9⟩
              case rest =>
                obtain ⟨rfl, m0, A0, c0, hm01, hm02, hv9, hbe9⟩ := hcut
                clear hv1 hbe1
                go_wp2_with fail
                go_loopw [8] (fun i wr => ∃ (q m : Nat) (A6 : Option Addr) (c6 : Nat), 2 ≤ q ∧ q ≤ k ∧ m ≤ q ∧ i = .int .i64 (q : Int) ∧ Hid (Bv wr (w1.heap.size + 1) w1.heap.size A6 m c6 (tcL xs (q - 2))) ∧ Below w1.heap.size w1 wr) (fun i _ => k - (intOf i).toNat)
                case atStart => exact ⟨2, m0, _, _, by omega, h2, by omega, rfl, hv9, hbe9⟩
                case round =>
                  clear hv9 hbe9
                  obtain ⟨q, m, A6, c6, hq2, hqk, hmq, rfl, hv, hbe⟩ := hrel
                  have hs := hbe.size
                  have hbd := hv.out.bounds
                  have hbv := hv.out.lt
                  by_cases hlt2 : q < k
                  · have hbl : ad.block < w1.heap.size := Nat.lt_of_lt_of_le hab (Nat.le_trans hB hwr.size)
                    have hx0c : wr.cell? ad = some (.int .i64 (gx xs 0)) := (hbe.cell hbl).trans hd0
                    have hx1c : wr.cell? ⟨ad.block, ad.off + 1, none⟩ = some (.int .i64 (gx xs 1)) := (hbe.cell (p := ⟨ad.block, ad.off + 1, none⟩) hbl).trans hd1
                    have hxqc : wr.cell? (ad.add q) = some (.int .i64 (gx xs q)) := (hbe.cell (by rw [block_of_add]; exact hbl)).trans (Hdq.out q hlt2)
                    have hi1 : 0 ≤ (q : Int) ∧ (q : Int) < (k : Int) := by omega
                    have hx := Hy.out q (by omega) (by rw [Hlen.out]; exact hlt2)
                    have hw1 : IntKind.i64.wrap (gx xs q + gx xs 0) = gx xs q + gx xs 0 := IntWalk.i64_in _ (by omega)
                    have hw2 : IntKind.i64.wrap (gx xs q + gx xs 0 - gx xs 1) = gx xs q + gx xs 0 - gx xs 1 := IntWalk.i64_in _ (by omega)
                    have Hs2 := Lib.hid (show tcL xs (q + 1 - 2) = tcL xs (q - 2) ++ [gx xs q + gx xs 0 - gx xs 1] by rw [show q + 1 - 2 = q - 2 + 1 by omega, tcL_snoc, show q - 2 + 2 = q by omega])
                    have hcx := hv.out.cell
                    have hfx := hv.out.free
                    go_wp2_with fail
                    go_region_law (first | (refine step_append_i (by rfl) _ _ (by rfl) w1.heap.size (.slice A6 m c6) m (tcL xs (q - 2)) (by simp [Act.eval]) (hv.out.own.alloc _) wr.heap.size (gx xs q + gx xs 0 - gx xs 1) 1 (by simp [Act.eval]) (by simp [go_sem]) (by omega) (by simp; omega) ?_; intro g' cap' w2 hown2 hgrow hat hlt3; obtain ⟨q1, q2⟩ := hv.out.after hgrow rfl))
                    all_goals
                      have Hv2 := Lib.hid (hv.out.step hgrow rfl hown2 hat)
                      rw [← Hs2.out] at Hv2
                      have hbe2 := fun u => hv.out.below (Nat.le_succ _) (Nat.le_refl _) hbe hgrow ⟨rfl, rfl, rfl, rfl⟩ u
                      clear hv hown2 hgrow hat q1 q2 hcx hfx hw1 hw2
                      go_wp2_with fail
                      go_roundw
                      case rel => exact ⟨q + 1, m + 1, _, _, by omega, by omega, by omega, by go_num, Hv2, hbe2 _⟩
                      case measure => first | (simp [intOf]; done) | (simp [intOf]; omega)
                  · obtain rfl : q = k := by omega
                    have hcx := hv.out.cell
                    have hbw := hwr.trans (hbe.mono hsw)
                    have hsb := hbw.size
                    have Hm2 := Lib.hid ((hv.out.ow (Nat.le_refl _)).is)
                    have hcr2 : wr.cell? ⟨w.heap.size, 0, none⟩ = some (.slice none 0 0) := (hbe.cell (p := ⟨w.heap.size, 0, none⟩) (by show w.heap.size < _; omega)).trans hcr
                    have hfr2 : wr.frozen? ⟨w.heap.size, 0, none⟩ = false := (hbe.frozen (p := ⟨w.heap.size, 0, none⟩) (by show w.heap.size < _; omega)).trans hfr
                    have HT2 := Lib.hid (show isBr (tcL xs (q - 2)) = tcW xs by have := tcB_test HT.out; rwa [Hlen.out] at this)
                    cases hR : tcW xs
                    · have Hr := Lib.hid (show tcB xs = ([], 5) by unfold tcB; rw [HT.out, hR]; rfl)
                      go_wp2_with fail
                      refine (l03Is_any _ _ (tcL xs (q - 2)) _ Hm2.out (Nat.le_refl _)).mono ?_
                      rintro e w3 ⟨rfl, hb3⟩
                      rw [HT2.out, hR]
                      have hcr3 := (hb3.cell (p := ⟨w.heap.size, 0, none⟩) (by show w.heap.size < _; omega)).trans hcr2
                      have hfr3 := (hb3.frozen (p := ⟨w.heap.size, 0, none⟩) (by show w.heap.size < _; omega)).trans hfr2
                      obtain ⟨n1, n2⟩ := res_none (b := w.heap.size) hcr3 (by omega) (hbw.trans (hb3.mono hsb))
                      have N2 := Lib.hid n2
                      clear n2 hb3 hbw hbe
                      go_wp2
                      exact bodyPost_ret (v := .tuple #[.agg #[.slice none 0 0], .int .i64 5]) (by simp [results, Try.results33, go_sem, n1]) rfl (LiB.nil Hr.out N2.out)
                    · have Hr := Lib.hid (show tcB xs = (tcL xs (q - 2), 0) by unfold tcB; rw [HT.out, hR, Hlen.out]; rfl)
                      go_wp2_with fail
                      refine (l03Is_any _ _ (tcL xs (q - 2)) _ Hm2.out (Nat.le_refl _)).mono ?_
                      rintro e w3 ⟨rfl, hb3⟩
                      rw [HT2.out, hR]
                      have hv3 := hv.out.later hb3
                      have hcx3 := hv3.cell
                      have hcr3 := (hb3.cell (p := ⟨w.heap.size, 0, none⟩) (by show w.heap.size < _; omega)).trans hcr2
                      have hfr3 := (hb3.frozen (p := ⟨w.heap.size, 0, none⟩) (by show w.heap.size < _; omega)).trans hfr2
                      obtain ⟨r1, r2, r3⟩ := res_out hv3 (b := w.heap.size) (by omega) hcr3 (by omega) (hbw.trans (hb3.mono hsb))
                      have R2 := Lib.hid r2; have R3 := Lib.hid r3
                      clear r2 r3 hb3 hbw hbe hv3
                      go_wp2
                      exact bodyPost_ret (v := .tuple #[.agg #[.slice A6 m c6], .int .i64 0]) (by simp [results, Try.results33, go_sem, r1]) rfl ⟨_, by rw [Hr.out], by rw [Hr.out]; exact R2.out, R3.out⟩
            · have Hr := Lib.hid (tcB_no (show isTu xs = false by
                cases hT : isTu xs
                · rfl
                · have := (isTu_true.1 hT).2.2.2.2; rw [Hlen.out] at this; exact absurd this h1))
              have h1b : (dg xs k != 1) = true := by simp [h1]
              obtain ⟨n1, n2⟩ := res_none (b := w.heap.size) hcr (by omega) hwr
              have N2 := Lib.hid n2
              clear n2 h1
              go_wp2
              exact bodyPost_ret (v := .tuple #[.agg #[.slice none 0 0], .int .i64 2]) (by simp [results, Try.results33, go_sem, n1]) rfl (LiB.nil Hr.out N2.out)
end WC
end Go.Proofs.Ytpclplagkjimmaa
