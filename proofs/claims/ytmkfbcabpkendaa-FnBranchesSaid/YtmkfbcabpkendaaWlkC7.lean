/-
  WALKS, CHAPTER 3: branches of exponents.
-/
import Derived.Test.YtmkfbcabpkendaaWlkC6
namespace Go.Proofs.Ytmkfbcabpkendaa
open Go.RowKit
set_option linter.unusedVariables false
namespace WC
open K Pl WA WL
theorem bex_no {n : Int} {xs : List Int} (h : okX n xs = false) : bex n xs = ([], 2) := by unfold bex; rw [h]; rfl
theorem bex_bad {n : Int} {xs : List Int} (h : okX n xs = true) (h2 : isBr (bxL n xs xs.length) = false) : bex n xs = ([], 5) := by unfold bex; rw [h, h2]; rfl
theorem bex_yes {n : Int} {xs : List Int} (h : okX n xs = true) (h2 : isBr (bxL n xs xs.length) = true) : bex n xs = (bxL n xs xs.length, 0) := by unfold bex; rw [h, h2]; rfl
/-- What stands when the tests are passed: the walk goes on from the making of the branch. -/
def BexI (w0 wr : World) (b lo : Nat) (n : Int) (xs : List Int) (k : Nat) (A : Option Addr) (m c : Nat) : Prop := Bv wr b lo A m c (bxL n xs k) ∧ Below w0.heap.size w0 wr
set_option maxHeartbeats 3200000 in
theorem BranchOfExponents_any (B : Nat) (n : Int) (v : Value) (xs : List Int) (w : World) (h : Is w B v xs) (hB : B ≤ w.heap.size) : Calls Try.prog 14 #[.int .i64 n, v] w (LiB (bex n xs) w) := by
  have Hh := Lib.hid h
  have hb1 : ∀ o, Below w.heap.size w (w.alloc o) := fun o => (Below.refl _ _).alloc (Nat.le_refl _) o
  obtain ⟨A, N, c, rfl, hnc, hcm, hrd⟩ := h
  have Hlen := Lib.hid hrd.len
  unfold maxLen at hcm
  cases hH : inR n 1 64
  · have Hr := Lib.hid (bex_no (n := n) (xs := xs) (by unfold okX; rw [hH]; rfl))
    clear hrd
    go_enter Try.func14, Try.ntmps14
    go_wp2_with (go_at_call 31; refine (inRange_any _ _ _ _).mono ?_; rintro e w' ⟨rfl, rfl⟩)
    exact bodyPost_ret (v := .tuple #[.agg #[.slice none 0 0], .int .i64 2]) (by simp [results, Try.results14, go_sem]) rfl (LiB.nil Hr.out ((hb1 _)))
  · have hn := inR_true.1 hH
    by_cases hL : (64 : Int) < (N : Int)
    · have Hr := Lib.hid (bex_no (n := n) (xs := xs) (by unfold okX; rw [hH, decide_eq_false (by rw [Hlen.out]; omega)]; rfl))
      clear hrd
      go_enter Try.func14, Try.ntmps14
      go_wp2_with (go_at_call 31; refine (inRange_any _ _ _ _).mono ?_; rintro e w' ⟨rfl, rfl⟩)
      exact bodyPost_ret (v := .tuple #[.agg #[.slice none 0 0], .int .i64 2]) (by simp [results, Try.results14, go_sem]) rfl (LiB.nil Hr.out ((hb1 _)))
    · have Hd := Lib.hid (show decide (xs.length ≤ 64) = true by rw [Hlen.out]; simp; omega)
      cases hA : ascB xs
      · have Hr := Lib.hid (bex_no (n := n) (xs := xs) (by unfold okX; rw [hH, Hd.out, hA]; rfl))
        clear hrd
        go_enter Try.func14, Try.ntmps14
        go_wp2_with (go_at_call 31; refine (inRange_any _ _ _ _).mono ?_; rintro e w' ⟨rfl, rfl⟩)
        refine (ascends_any B _ xs _ (Hh.out.below ((hb1 _).mono hB)) (by simp; omega)).mono ?_
        rintro e w1 ⟨rfl, hb⟩
        rw [hA]
        have hcr : w1.cell? ⟨w.heap.size, 0, none⟩ = some (.slice none 0 0) := (hb.cell (p := ⟨w.heap.size, 0, none⟩) (by simp)).trans (by simp [go_sem])
        have hfr : w1.frozen? ⟨w.heap.size, 0, none⟩ = false := (hb.frozen (p := ⟨w.heap.size, 0, none⟩) (by simp)).trans (by simp [go_sem])
        have hw1 := (hb1 _).trans (hb.mono (by simp))
        obtain ⟨r1, r2⟩ := res_none (b := w.heap.size) hcr (by omega) hw1
        have R2 := Lib.hid r2
        clear hb r2
        go_wp2
        exact bodyPost_ret (v := .tuple #[.agg #[.slice none 0 0], .int .i64 2]) (by simp [results, Try.results14, go_sem, r1]) rfl (LiB.nil Hr.out R2.out)
      · cases hW : wiB xs 1 2000
        · have Hr := Lib.hid (bex_no (n := n) (xs := xs) (by unfold okX; rw [hH, Hd.out, hA, hW]; rfl))
          clear hrd
          go_enter Try.func14, Try.ntmps14
          go_wp2_with (go_at_call 31; refine (inRange_any _ _ _ _).mono ?_; rintro e w' ⟨rfl, rfl⟩)
          refine (ascends_any B _ xs _ (Hh.out.below ((hb1 _).mono hB)) (by simp; omega)).mono ?_
          rintro e w1 ⟨rfl, hb⟩
          rw [hA]
          have hcr : w1.cell? ⟨w.heap.size, 0, none⟩ = some (.slice none 0 0) := (hb.cell (p := ⟨w.heap.size, 0, none⟩) (by simp)).trans (by simp [go_sem])
          have hfr : w1.frozen? ⟨w.heap.size, 0, none⟩ = false := (hb.frozen (p := ⟨w.heap.size, 0, none⟩) (by simp)).trans (by simp [go_sem])
          have hw1 := (hb1 _).trans (hb.mono (by simp))
          have hs1 := hw1.size
          obtain ⟨r1, r2⟩ := res_none (b := w.heap.size) hcr (by omega) hw1
          have R2 := Lib.hid r2
          clear hb r2
          go_wp2_with fail
          refine (within_any B _ xs _ _ _ (Hh.out.below (hw1.mono hB)) (by omega)).mono ?_
          rintro e w2 ⟨rfl, rfl⟩
          rw [hW]
          go_wp2
          exact bodyPost_ret (v := .tuple #[.agg #[.slice none 0 0], .int .i64 2]) (by simp [results, Try.results14, go_sem, r1]) rfl (LiB.nil Hr.out R2.out)
        · have Hok := Lib.hid (show okX n xs = true by unfold okX; rw [hH, Hd.out, hA, hW]; rfl)
          have Hw := Lib.hid (wi_range hW)
          have Hp := Lib.hid (fun k => bxE_pos (xs := xs) hn.1 k)
          have Hbl := Lib.hid (fun k => bxL_len n xs k)
          have hN : N ≤ 64 := by omega
          go_enter Try.func14, Try.ntmps14
          go_wp2_with (go_at_call 31; refine (inRange_any _ _ _ _).mono ?_; rintro e w' ⟨rfl, rfl⟩)
          refine (ascends_any B _ xs _ (Hh.out.below ((hb1 _).mono hB)) (by simp; omega)).mono ?_
          rintro e w1 ⟨rfl, hb⟩
          rw [hA]
          have hcr : w1.cell? ⟨w.heap.size, 0, none⟩ = some (.slice none 0 0) := (hb.cell (p := ⟨w.heap.size, 0, none⟩) (by simp)).trans (by simp [go_sem])
          have hfr : w1.frozen? ⟨w.heap.size, 0, none⟩ = false := (hb.frozen (p := ⟨w.heap.size, 0, none⟩) (by simp)).trans (by simp [go_sem])
          have hw1 := (hb1 _).trans (hb.mono (by simp))
          have hs1 : w.heap.size + 1 ≤ w1.heap.size := by have := hb.size; simp at this; omega
          clear hb hb1
          go_wp2_with fail
          refine (within_any B _ xs _ _ _ (Hh.out.below (hw1.mono hB)) (by omega)).mono ?_
          rintro e w2 ⟨rfl, rfl⟩
          rw [hW]
          have hv0 := Lib.hid (show Bv ((w1.alloc (.cells #[.int .i64 n] 2)).alloc (.cells #[.slice (some ⟨w1.heap.size, 0, none⟩) 1 1] 26)) (w1.heap.size + 1) w1.heap.size (some ⟨w1.heap.size, 0, none⟩) 1 1 (bxL n xs 0) from Bv.lit w1 n (Nat.le_refl _))
          have hbe0 : ∀ o o', Below w1.heap.size w1 ((w1.alloc o).alloc o') := fun o o' => ((Below.refl _ _).alloc (Nat.le_refl _) _).alloc (by simp) _
          clear hA hW hL
          go_wp2
          go_loopw [7, 35] (fun u i wr => ∃ (k m : Nat) (A6 : Option Addr) (c6 : Nat), k ≤ N ∧ m ≤ k + 1 ∧ i = .int .i64 k ∧ u = .int .i64 (bxE n xs k) ∧ Hid (Bv wr (w1.heap.size + 1) w1.heap.size A6 m c6 (bxL n xs k)) ∧ Below w1.heap.size w1 wr) (fun _ i _ => N - (intOf i).toNat)
          case atStart => exact ⟨0, 1, _, 1, Nat.zero_le _, by omega, rfl, rfl, hv0, hbe0 _ _⟩
          case round =>
            clear hv0 hbe0
            obtain ⟨k, m, A6, c6, hk, hmk, rfl, rfl, hv, hbe⟩ := hrel
            have hs := hbe.size
            have hp1 := Hp.out k
            have hbd := hv.out.bounds
            by_cases hlt : k < N
            · obtain ⟨ad, rfl, hab, hc⟩ := hrd.pos (by omega)
              have hc1 : wr.cell? (ad.add k) = some (.int .i64 (gx xs k)) := (hbe.cell (by rw [block_of_add]; omega)).trans ((hw1.cell (by rw [block_of_add]; omega)).trans (hc k hlt))
              have hi1 : 0 ≤ (k : Int) ∧ (k : Int) < (N : Int) := by omega
              have hx := Hw.out k (by rw [Hlen.out]; exact hlt)
              clear hc
              by_cases hmod : gx xs k % bxE n xs k = 0
              · have Hs1 := Lib.hid (bxE_same hn.1 hmod)
                have Hs2 := Lib.hid (bxL_same hmod)
                have hm0 : (gx xs k % bxE n xs k != 0) = false := by simp [hmod]
                clear hmod
                by_cases he1 : 1 < bxE n xs k
                · go_wp2
                  go_roundw
                  case rel => exact ⟨k + 1, m, A6, c6, by omega, by omega, by go_num, by rw [Hs1.out], Lib.hid (by rw [Hs2.out]; exact hv.out), hbe⟩
                  case measure => first | (simp [intOf]; done) | (simp [intOf]; omega)
                · go_wp2
                  go_roundw
                  case rel => exact ⟨k + 1, m, A6, c6, by omega, by omega, by go_num, by rw [Hs1.out], Lib.hid (by rw [Hs2.out]; exact hv.out), hbe⟩
                  case measure => first | (simp [intOf]; done) | (simp [intOf]; omega)
              · have he1 : 1 < bxE n xs k := by
                  rcases Int.lt_or_le 1 (bxE n xs k) with h | h
                  · exact h
                  · have : bxE n xs k = 1 := by omega
                    rw [this] at hmod; exact absurd (Int.emod_one _) hmod
                have Hs2 := Lib.hid (bxL_more hmod)
                have hm0 : (gx xs k % bxE n xs k != 0) = true := by simp [hmod]
                have hcx := hv.out.cell
                have hfx := hv.out.free
                clear hmod
                go_wp2_with (at_builtin; refine wp_append_i rfl _ _ rfl w1.heap.size _ m (bxL n xs k) rfl (hv.out.own.alloc _) wr.heap.size (gx xs k) 1 rfl (by simp) (by omega) (by simp; omega) ?_)
                intro g' cap' w2 hown2 hgrow hat hlt2
                obtain ⟨q1, q2⟩ := hv.out.after hgrow rfl
                have Hv2 := Lib.hid (hv.out.step (y := gx xs k) (g := g') (cap := cap') hgrow rfl (by simpa using hown2) (by rw [World.size_alloc]; exact hat))
                rw [← Hs2.out] at Hv2
                have hbe2 := hv.out.below (Nat.le_succ _) (Nat.le_refl _) hbe hgrow ⟨rfl, rfl, rfl, rfl⟩ (.slice (some ⟨g', 0, none⟩) (m + 1) cap')
                have hs2 := hbe2.size
                clear hv hown2 hgrow hat hbe hcx hfx
                go_wp2_with fail
                refine (divisor_any _ _ _ (by omega) (by omega) (by omega) (by omega)).mono ?_
                rintro e w3 ⟨rfl, hb3⟩
                have Hv3 := Lib.hid (Hv2.out.later hb3)
                have hbe3 := hbe2.trans (hb3.mono hs2)
                clear Hv2 hb3 hbe2 hs2
                go_wp2
                go_roundw
                case rel => exact ⟨k + 1, m + 1, _, _, by omega, by omega, by go_num, rfl, Hv3, hbe3⟩
                case measure => first | (simp [intOf]; done) | (simp [intOf]; omega)
            · obtain rfl : k = N := by omega
              have hcx := hv.out.cell
              have hcr2 : wr.cell? ⟨w.heap.size, 0, none⟩ = some (.slice none 0 0) := (hbe.cell (p := ⟨w.heap.size, 0, none⟩) (by show w.heap.size < _; omega)).trans hcr
              have hfr2 : wr.frozen? ⟨w.heap.size, 0, none⟩ = false := (hbe.frozen (p := ⟨w.heap.size, 0, none⟩) (by show w.heap.size < _; omega)).trans hfr
              have hbw := hw1.trans (hbe.mono hw1.size)
              obtain ⟨r1, r2, r3⟩ := res_out hv.out (b := w.heap.size) (by omega) hcr2 (by omega) hbw
              obtain ⟨n1, n2⟩ := res_none (b := w.heap.size) hcr2 (by omega) hbw
              have R2 := Lib.hid r2; have R3 := Lib.hid r3; have N2 := Lib.hid n2
              have Ht := Lib.hid (bex_test Hok.out)
              have Hm := Lib.hid hv.out.len
              rw [Hlen.out, Hm.out] at Ht
              clear r2 r3 n2 hbw hbe
              by_cases he1 : 1 < bxE n xs k
              · have Hr := Lib.hid (bex_bad Hok.out (by rw [Hlen.out, Ht.out]; simp [he1]))
                go_wp2
                exact bodyPost_ret (v := .tuple #[.agg #[.slice none 0 0], .int .i64 5]) (by simp [results, Try.results14, go_sem, n1]) rfl (LiB.nil Hr.out N2.out)
              · by_cases hm1 : (1 : Int) < (m : Int)
                · obtain ⟨g, rfl, hcg⟩ := hv.out.at (j := 1) (by omega)
                  by_cases hx1 : gx (bxL n xs k) 1 < n
                  · have Hr := Lib.hid (bex_bad Hok.out (by rw [Hlen.out, Ht.out]; simp [hx1]; omega))
                    go_wp2
                    exact bodyPost_ret (v := .tuple #[.agg #[.slice none 0 0], .int .i64 5]) (by simp [results, Try.results14, go_sem, n1]) rfl (LiB.nil Hr.out N2.out)
                  · have Hr := Lib.hid (bex_yes Hok.out (by rw [Hlen.out, Ht.out]; simp [hx1]; omega))
                    rw [Hlen.out] at Hr
                    go_wp2
                    exact bodyPost_ret (v := .tuple #[.agg #[.slice (some ⟨g, 0, none⟩) m c6], .int .i64 0]) (by simp [results, Try.results14, go_sem, r1]) rfl ⟨_, by rw [Hr.out], by rw [Hr.out]; exact R2.out, R3.out⟩
                · have Hr := Lib.hid (bex_yes Hok.out (by rw [Hlen.out, Ht.out]; simp; omega))
                  rw [Hlen.out] at Hr
                  go_wp2
                  exact bodyPost_ret (v := .tuple #[.agg #[.slice A6 m c6], .int .i64 0]) (by simp [results, Try.results14, go_sem, r1]) rfl ⟨_, by rw [Hr.out], by rw [Hr.out]; exact R2.out, R3.out⟩
end WC
end Go.Proofs.Ytmkfbcabpkendaa
