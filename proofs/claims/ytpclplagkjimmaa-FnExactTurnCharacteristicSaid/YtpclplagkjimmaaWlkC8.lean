/-
  WALKS, CHAPTER 3: branches of exponents, by the reference.
-/
import Derived.Test.YtpclplagkjimmaaWlkC7
namespace Go.Proofs.Ytpclplagkjimmaa
open Go.RowKit
set_option linter.unusedVariables false
namespace WC
open K Pl WA WL
/-- A world after some draws. -/
def Drawn2 (w w' : World) : Prop := ∃ m, w' = w.drewN m
theorem Drawn2.refl (w : World) : Drawn2 w w := ⟨0, rfl⟩
theorem Drawn2.drewN {w w' : World} (h : Drawn2 w w') (n : Nat) : Drawn2 w (w'.drewN n) := by
  obtain ⟨m, rfl⟩ := h
  exact ⟨m + n, by simp⟩
theorem Drawn2.cell {w w' : World} (h : Drawn2 w w') (a : Addr) : w'.cell? a = w.cell? a := by obtain ⟨m, rfl⟩ := h; rfl
theorem Drawn2.frozen {w w' : World} (h : Drawn2 w w') (a : Addr) : w'.frozen? a = w.frozen? a := by obtain ⟨m, rfl⟩ := h; rfl
theorem Drawn2.size {w w' : World} (h : Drawn2 w w') : w'.heap.size = w.heap.size := by obtain ⟨m, rfl⟩ := h; rfl
theorem Drawn2.below {w w' : World} (h : Drawn2 w w') (B : Nat) : Below B w w' := by obtain ⟨m, rfl⟩ := h; exact below_drewN (Below.refl _ _) _
theorem okX_short {n : Int} {xs : List Int} (j : Nat) (hj : j < xs.length) (h : inR (gx xs j) 1 2000 = false) : okX n xs = false := by
  unfold okX
  rw [show wiB xs 1 2000 = false from allF_false j (by omega) hj h]; simp
theorem okX_asc {n : Int} {xs : List Int} (j : Nat) (h1 : 1 ≤ j) (hj : j < xs.length) (h : gx xs j ≤ gx xs (j - 1)) : okX n xs = false := by
  unfold okX
  rw [show ascB xs = false from allF_false j h1 hj (by simp; exact h)]; simp
theorem l01In_b {b : Bool} (n l m : Int) (w : World) (h : inR n l m = b) : Calls Try.prog 57 #[.int .i64 n, .int .i64 l, .int .i64 m] w fun e w' => e = .returned (.bool b) ∧ w' = w :=
  (l01In_any n l m w).mono fun _ _ ⟨a, c⟩ => ⟨by rw [← h]; exact a, c.symm⟩
set_option maxHeartbeats 3200000 in
theorem sBranchOfExponents_any (B : Nat) (n : Int) (v : Value) (xs : List Int) (w : World) (h : Is w B v xs) (hB : B ≤ w.heap.size) : Calls Try.prog 23 #[.int .i64 n, v] w (LiB (bex n xs) w) := by
  have Hh := Lib.hid h
  have hb1 : ∀ o, Below w.heap.size w (w.alloc o) := fun o => (Below.refl _ _).alloc (Nat.le_refl _) o
  obtain ⟨A, N, c, rfl, hnc, hcm, hrd⟩ := h
  have Hlen := Lib.hid hrd.len
  unfold maxLen at hcm
  cases hH : inR n 1 64
  · have Hr := Lib.hid (bex_no (n := n) (xs := xs) (by unfold okX; rw [hH]; rfl))
    clear hrd
    go_enter Try.func23, Try.ntmps23
    go_wp2_with (go_at_call 57; refine (l01In_any _ _ _ _).mono ?_; rintro e w' ⟨rfl, rfl⟩)
    exact bodyPost_ret (v := .tuple #[.agg #[.slice none 0 0], .int .i64 2]) (by simp [results, Try.results23, go_sem]) rfl (LiB.nil Hr.out ((hb1 _)))
  · have hn := inR_true.1 hH
    by_cases hL : (64 : Int) < (N : Int)
    · have Hr := Lib.hid (bex_no (n := n) (xs := xs) (by unfold okX; rw [hH, decide_eq_false (by rw [Hlen.out]; omega)]; rfl))
      clear hrd
      go_enter Try.func23, Try.ntmps23
      go_wp2_with (go_at_call 57; refine (l01In_any _ _ _ _).mono ?_; rintro e w' ⟨rfl, rfl⟩)
      exact bodyPost_ret (v := .tuple #[.agg #[.slice none 0 0], .int .i64 2]) (by simp [results, Try.results23, go_sem]) rfl (LiB.nil Hr.out ((hb1 _)))
    · have HH := Lib.hid hH
      have Hp := Lib.hid (fun k => bxE_pos (xs := xs) hn.1 k)
      have hN : N ≤ 64 := by omega
      have hcr0 : ∀ cs t, (w.alloc (.cells (#[.slice none 0 0] ++ cs) t)).frozen? ⟨w.heap.size, 0, none⟩ = false := fun cs t => by simp [go_sem]
      have hdw0 : Drawn2 (w.alloc (.cells #[.slice none 0 0] 27)) (w.alloc (.cells #[.slice none 0 0] 27)) := Drawn2.refl _
      have hc00 : (w.alloc (.cells #[.slice none 0 0] 27)).cell? ⟨w.heap.size, 0, none⟩ = some (.slice none 0 0) := by simp [go_sem]
      have hf00 : (w.alloc (.cells #[.slice none 0 0] 27)).frozen? ⟨w.heap.size, 0, none⟩ = false := by simp [go_sem]
      have hB0 : Below w.heap.size w (w.alloc (.cells #[.slice none 0 0] 27)) := hb1 _
      have hs0 := Lib.hid (show (w.alloc (.cells #[.slice none 0 0] 27)).heap.size = w.heap.size + 1 by simp)
      clear hcr0 hb1
      go_enter Try.func23, Try.ntmps23
      go_wp2_with (go_at_call 57; refine (l01In_any _ _ _ _).mono ?_; rintro e w' ⟨rfl, rfl⟩)
      generalize hw0 : w.alloc (.cells #[.slice none 0 0] 27) = W0 at *
      clear hw0 hL
      go_loopw [6] (fun i wr => ∃ k : Nat, k ≤ N ∧ i = .int .i64 k ∧ Hid (∀ j, j < k → inR (gx xs j) 1 2000 = true) ∧ Hid (∀ j, 1 ≤ j → j < k → gx xs (j - 1) < gx xs j) ∧ Drawn2 W0 wr) (fun i _ => N - (intOf i).toNat)
      case atStart => exact ⟨0, Nat.zero_le _, rfl, Lib.hid (fun j hj => by omega), Lib.hid (fun j h1 h2 => by omega), hdw0⟩
      case round =>
        clear hdw0
        obtain ⟨k, hk, rfl, hin, hasc, hdw⟩ := hrel
        have hcr := (hdw.cell ⟨w.heap.size, 0, none⟩).trans hc00
        have hfr := (hdw.frozen ⟨w.heap.size, 0, none⟩).trans hf00
        have hwr := hB0.trans (hdw.below _)
        have hsr := Lib.hid (show wr.heap.size = w.heap.size + 1 by rw [hdw.size, hs0.out])
        have hsr1 : w.heap.size + 1 ≤ wr.heap.size := by have := hsr.out; omega
        by_cases hlt : k < N
        · obtain ⟨ad, rfl, hab, hc⟩ := hrd.pos (by omega)
          have hc1 : wr.cell? (ad.add k) = some (.int .i64 (gx xs k)) := (hwr.cell (by rw [block_of_add]; omega)).trans (hc k hlt)
          have hc2 : 1 ≤ k → wr.cell? (ad.add (k - 1)) = some (.int .i64 (gx xs (k - 1))) := fun _ => (hwr.cell (by rw [block_of_add]; omega)).trans (hc (k - 1) (by omega))
          have hi1 : 0 ≤ (k : Int) ∧ (k : Int) < (N : Int) := by omega
          clear hc
          cases hI : inR (gx xs k) 1 2000
          · have Hr := Lib.hid (bex_no (n := n) (okX_short k (by rw [Hlen.out]; exact hlt) hI))
            have HI := Lib.hid hI
            obtain ⟨n1, n2⟩ := res_none (b := w.heap.size) hcr (by omega) hwr
            have N1 := Lib.hid n1; have N2 := Lib.hid n2
            clear hc2 n1 n2 hI hdw hwr
            go_wp2_with fail
            go_quiet ((go_at_call 57; exact Calls.quiet_of_same (l01In_b _ _ _ _ HI.out)))
            go_wp2
            refine bodyPost_ret (v := .tuple #[.agg #[.slice none 0 0], .int .i64 2]) ?_ rfl (LiB.nil Hr.out ⟨N2.out.os, N2.out.tape, N2.out.output, N2.out.size, N2.out.block⟩)
            have n1 : ((wr.drewN nq).setCell ⟨w.heap.size, 0, none⟩ (.slice none 0 0)).cell? ⟨w.heap.size, 0, none⟩ = some (.slice none 0 0) := N1.out
            simp [results, Try.results23, go_sem, n1]
          · have HI := Lib.hid hI
            have hrg := inR_true.1 hI
            by_cases hk0 : k = 0
            · have hg0 : ¬ (0 : Int) < (k : Int) := by omega
              have hgd : decide ((0 : Int) < (k : Int)) = false := by simpa using hg0
              have hgn : ¬ 0 < k := by omega
              have hgd2 : decide (0 < k) = false := by simpa using hgn
              have Hin2 := Lib.hid (show ∀ j, j < k + 1 → inR (gx xs j) 1 2000 = true from fun j hj => by
                rcases Nat.lt_or_ge j k with h3 | h3
                · exact hin.out j h3
                · obtain rfl : j = k := by omega
                  exact HI.out)
              have Hasc2 := Lib.hid (show ∀ j, 1 ≤ j → j < k + 1 → gx xs (j - 1) < gx xs j from fun j h1 h2 => by omega)
              clear hc2 hI hcr hfr hwr hsr hk0
              go_wp2_with fail
              go_quiet ((go_at_call 57; exact Calls.quiet_of_same (l01In_b _ _ _ _ HI.out)))
              go_wp2
              go_roundw
              case rel => exact ⟨k + 1, by omega, by go_num, Hin2, Hasc2, hdw.drewN _⟩
              case measure => first | (simp [intOf]; done) | (simp [intOf]; omega)
            · have hg0 : (0 : Int) < (k : Int) := by omega
              have hgn : 0 < k := by omega
              have hc3 := hc2 (by omega)
              have hi2 : 0 ≤ (k : Int) - 1 ∧ (k : Int) - 1 < (N : Int) := by omega
              have hi3 : (1 : Int) ≤ (k : Int) := by omega
              have hwk : IntKind.i64.wrap ((k : Int) - 1) = (k : Int) - 1 := IntWalk.i64_in _ (by omega)
              by_cases hle : gx xs k ≤ gx xs (k - 1)
              · have Hr := Lib.hid (bex_no (n := n) (okX_asc k (by omega) (by rw [Hlen.out]; exact hlt) hle))
                obtain ⟨n1, n2⟩ := res_none (b := w.heap.size) hcr (by omega) hwr
                have N1 := Lib.hid n1; have N2 := Lib.hid n2
                clear hc2 n1 n2 hI hdw hwr hk0
                go_wp2_with fail
                go_quiet ((go_at_call 57; exact Calls.quiet_of_same (l01In_b _ _ _ _ HI.out)))
                go_wp2
                refine bodyPost_ret (v := .tuple #[.agg #[.slice none 0 0], .int .i64 2]) ?_ rfl (LiB.nil Hr.out ⟨N2.out.os, N2.out.tape, N2.out.output, N2.out.size, N2.out.block⟩)
                have n1 : ((wr.drewN nq).setCell ⟨w.heap.size, 0, none⟩ (.slice none 0 0)).cell? ⟨w.heap.size, 0, none⟩ = some (.slice none 0 0) := N1.out
                simp [results, Try.results23, go_sem, n1]
              · have Hin2 := Lib.hid (show ∀ j, j < k + 1 → inR (gx xs j) 1 2000 = true from fun j hj => by
                  rcases Nat.lt_or_ge j k with h3 | h3
                  · exact hin.out j h3
                  · obtain rfl : j = k := by omega
                    exact HI.out)
                have Hasc2 := Lib.hid (show ∀ j, 1 ≤ j → j < k + 1 → gx xs (j - 1) < gx xs j from fun j h1 h2 => by
                  rcases Nat.lt_or_ge j k with h3 | h3
                  · exact hasc.out j h1 h3
                  · obtain rfl : j = k := by omega
                    omega)
                clear hc2 hI hcr hfr hwr hsr hk0
                go_wp2_with fail
                go_quiet ((go_at_call 57; exact Calls.quiet_of_same (l01In_b _ _ _ _ HI.out)))
                go_wp2
                go_roundw
                case rel => exact ⟨k + 1, by omega, by go_num, Hin2, Hasc2, hdw.drewN _⟩
                case measure => first | (simp [intOf]; done) | (simp [intOf]; omega)
        · obtain rfl : k = N := by omega
          have Hok := Lib.hid (okX_true.2 ⟨hn, by rw [Hlen.out]; omega, fun i h1 h2 => hasc.out i h1 (by rw [Hlen.out] at h2; exact h2), fun i h2 => inR_true.1 (hin.out i (by rw [Hlen.out] at h2; exact h2))⟩)
          have Hw := Lib.hid (fun i (h2 : i < k) => inR_true.1 (hin.out i h2))
          have hsw := hwr.size
          clear hin hasc hdw hc00 hf00 hB0 hs0 HH
          have hv0 := Lib.hid (show Bv ((wr.alloc (.cells #[.int .i64 n] 2)).alloc (.cells #[.slice (some ⟨wr.heap.size, 0, none⟩) 1 1] 27)) (wr.heap.size + 1) wr.heap.size (some ⟨wr.heap.size, 0, none⟩) 1 1 (bxL n xs 0) from Bv.lit wr n (Nat.le_refl _))
          have hbe0 : ∀ o o', Below wr.heap.size wr ((wr.alloc o).alloc o') := fun o o' => ((Below.refl _ _).alloc (Nat.le_refl _) _).alloc (by simp) _
          obtain ⟨w1, rfl⟩ : ∃ w1 : World, w1 = wr := ⟨_, rfl⟩
          go_wp2
          go_loopw [8, 9] (fun u i wr => ∃ (q m : Nat) (A6 : Option Addr) (c6 : Nat), q ≤ k ∧ m ≤ q + 1 ∧ i = .int .i64 q ∧ u = .int .i64 (bxE n xs q) ∧ Hid (Bv wr (w1.heap.size + 1) w1.heap.size A6 m c6 (bxL n xs q)) ∧ Below w1.heap.size w1 wr) (fun _ i _ => k - (intOf i).toNat)
          case atStart => exact ⟨0, 1, _, 1, Nat.zero_le _, by omega, rfl, rfl, hv0, hbe0 _ _⟩
          case round =>
            clear hv0 hbe0
            obtain ⟨q, m, A6, c6, hq, hmk, rfl, rfl, hv, hbe⟩ := hrel
            have hs := hbe.size
            have hp1 := Hp.out q
            have hbd := hv.out.bounds
            have hbv := hv.out.lt
            by_cases hlt2 : q < k
            · obtain ⟨ad, rfl, hab, hc⟩ := hrd.pos (by omega)
              have hc1 : wr.cell? (ad.add q) = some (.int .i64 (gx xs q)) := (hbe.cell (by rw [block_of_add]; omega)).trans ((hwr.cell (by rw [block_of_add]; omega)).trans (hc q hlt2))
              have hi1 : 0 ≤ (q : Int) ∧ (q : Int) < (k : Int) := by omega
              have hx := Hw.out q hlt2
              clear hc
              by_cases hmod : gx xs q % bxE n xs q = 0
              · have Hs1 := Lib.hid (bxE_same hn.1 hmod)
                have Hs2 := Lib.hid (bxL_same hmod)
                have hm0 : (gx xs q % bxE n xs q != 0) = false := by simp [hmod]
                clear hmod
                go_wp2
                go_roundw
                case rel => exact ⟨q + 1, m, A6, c6, by omega, by omega, by go_num, by rw [Hs1.out], Lib.hid (by rw [Hs2.out]; exact hv.out), hbe⟩
                case measure => first | (simp [intOf]; done) | (simp [intOf]; omega)
              · have Hs2 := Lib.hid (bxL_more hmod)
                have hm0 : (gx xs q % bxE n xs q != 0) = true := by simp [hmod]
                have hcx := hv.out.cell
                have hfx := hv.out.free
                clear hmod
                go_wp2_with fail
                refine (l01Gcd_any _ _ _ (by omega) (by omega) (by omega) (by omega)).mono ?_
                rintro e w' ⟨rfl, rfl⟩
                go_wp2_with fail
                go_region_law (first | (refine step_append_i (by rfl) _ _ (by rfl) w1.heap.size (.slice A6 m c6) m (bxL n xs q) (by simp [Act.eval]) (hv.out.own.alloc _) wr.heap.size (gx xs q) 1 (by simp [Act.eval]) (by simp [go_sem]) (by omega) (by simp; omega) ?_; intro g' cap' w2 hown2 hgrow hat hlt3; obtain ⟨q1, q2⟩ := hv.out.after hgrow rfl))
                all_goals
                  have Hv2 := Lib.hid (hv.out.step hgrow rfl hown2 hat)
                  rw [← Hs2.out] at Hv2
                  have hbe2 := fun u => hv.out.below (Nat.le_succ _) (Nat.le_refl _) hbe hgrow ⟨rfl, rfl, rfl, rfl⟩ u
                  clear hv hown2 hgrow hat q1 q2 hcx hfx
                  go_wp2_with fail
                  go_roundw
                  case rel => exact ⟨q + 1, m + 1, _, _, by omega, by omega, by go_num, rfl, Hv2, hbe2 _⟩
                  case measure => first | (simp [intOf]; done) | (simp [intOf]; omega)
            · obtain rfl : q = k := by omega
              have hcx := hv.out.cell
              have hbw := hwr.trans (hbe.mono hsw)
              have hsb := hbw.size
              have Hm := Lib.hid (show ∀ o, Is (wr.alloc o) wr.heap.size (.slice A6 m c6) (bxL n xs q) from fun o => ((hv.out.ow (Nat.le_refl _)).is).below ((Below.refl _ _).alloc (Nat.le_refl _) o))
              have Hm2 := Lib.hid ((hv.out.ow (Nat.le_refl _)).is)
              have hcr2 : wr.cell? ⟨w.heap.size, 0, none⟩ = some (.slice none 0 0) := (hbe.cell (p := ⟨w.heap.size, 0, none⟩) (by show w.heap.size < _; omega)).trans hcr
              have hfr2 : wr.frozen? ⟨w.heap.size, 0, none⟩ = false := (hbe.frozen (p := ⟨w.heap.size, 0, none⟩) (by show w.heap.size < _; omega)).trans hfr
              have hlo := hv.out.lt
              cases hR : isBr (bxL n xs q)
              · have Hr := Lib.hid (bex_bad Hok.out (by rw [Hlen.out]; exact hR))
                go_wp2_with fail
                refine (l03Is_any _ _ (bxL n xs q) _ Hm2.out (Nat.le_refl _)).mono ?_
                rintro e w3 ⟨rfl, hb3⟩
                rw [hR]
                have hcr3 := (hb3.cell (p := ⟨w.heap.size, 0, none⟩) (by show w.heap.size < _; omega)).trans hcr2
                have hfr3 := (hb3.frozen (p := ⟨w.heap.size, 0, none⟩) (by show w.heap.size < _; omega)).trans hfr2
                obtain ⟨n1, n2⟩ := res_none (b := w.heap.size) hcr3 (by omega) (hbw.trans (hb3.mono hsb))
                have N2 := Lib.hid n2
                clear n2 hb3 hbw hbe
                go_wp2
                exact bodyPost_ret (v := .tuple #[.agg #[.slice none 0 0], .int .i64 5]) (by simp [results, Try.results23, go_sem, n1]) rfl (LiB.nil Hr.out N2.out)
              · have Hr := Lib.hid (bex_yes Hok.out (by rw [Hlen.out]; exact hR))
                rw [Hlen.out] at Hr
                go_wp2_with fail
                refine (l03Is_any _ _ (bxL n xs q) _ Hm2.out (Nat.le_refl _)).mono ?_
                rintro e w3 ⟨rfl, hb3⟩
                rw [hR]
                have hv3 := hv.out.later hb3
                have hcx3 := hv3.cell
                have hcr3 := (hb3.cell (p := ⟨w.heap.size, 0, none⟩) (by show w.heap.size < _; omega)).trans hcr2
                have hfr3 := (hb3.frozen (p := ⟨w.heap.size, 0, none⟩) (by show w.heap.size < _; omega)).trans hfr2
                obtain ⟨r1, r2, r3⟩ := res_out hv3 (b := w.heap.size) (by omega) hcr3 (by omega) (hbw.trans (hb3.mono hsb))
                have R2 := Lib.hid r2; have R3 := Lib.hid r3
                clear r2 r3 hb3 hbw hbe hv3
                go_wp2
                exact bodyPost_ret (v := .tuple #[.agg #[.slice A6 m c6], .int .i64 0]) (by simp [results, Try.results23, go_sem, r1]) rfl ⟨_, by rw [Hr.out], by rw [Hr.out]; exact R2.out, R3.out⟩
end WC
end Go.Proofs.Ytpclplagkjimmaa
