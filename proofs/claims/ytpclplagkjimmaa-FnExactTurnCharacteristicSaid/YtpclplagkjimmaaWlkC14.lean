/-
  WALKS, CHAPTER 3: turned characteristics by the program.
-/
import Derived.Test.YtpclplagkjimmaaWlkC13
namespace Go.Proofs.Ytpclplagkjimmaa
open Go.RowKit
set_option linter.unusedVariables false
namespace WC
open K Pl WA WL
theorem tcB_no {xs : List Int} (h : isTu xs = false) : tcB xs = ([], 2) := by unfold tcB; rw [h]; rfl
theorem tcB_wide {xs : List Int} (h : isTu xs = true) (i : Nat) (h2 : 2 ≤ i) (h3 : i < xs.length) (hb : 2000 < gx xs i + gx xs 0 - gx xs 1) : tcB xs = ([], 5) := by
  unfold tcB
  rw [h, show tcW xs = false from allF_false i h2 h3 (by simp; omega)]; rfl
theorem tcB_good {xs : List Int} (h : isTu xs = true) (ha : ∀ j, 2 ≤ j → j < xs.length → gx xs j + gx xs 0 - gx xs 1 ≤ 2000) : tcB xs = (tcL xs (xs.length - 2), 0) := by
  unfold tcB
  rw [h, show tcW xs = true from allF_true.2 fun j h1 h2 => by simpa using ha j h1 h2]; rfl
theorem tu_pos {xs : List Int} (h : isTu xs = true) : ∀ i, 1 ≤ i → i < xs.length → 1 ≤ gx xs i ∧ gx xs i ≤ 2000
  | 0, h1, _ => by omega
  | i + 1, h1, h2 => by
    obtain ⟨_, a, b, c, _⟩ := isTu_true.1 h
    have hu := okU_true.1 (c (i + 1) h1 h2)
    refine ⟨?_, hu.2.1⟩
    rcases Nat.eq_zero_or_pos i with rfl | hp
    · exact b.1
    · have := tu_pos h i hp (by omega)
      have := hu.2.2 (by omega)
      simp at this; omega
set_option maxHeartbeats 3200000 in
theorem TurnCharacteristic_any (B : Nat) (v : Value) (xs : List Int) (w : World) (h : Is w B v xs) (hB : B ≤ w.heap.size) : Calls Try.prog 34 #[v] w (LiB (tcB xs) w) := by
  have Hh := Lib.hid h
  have hb1 : ∀ o, Below w.heap.size w (w.alloc o) := fun o => (Below.refl _ _).alloc (Nat.le_refl _) o
  obtain ⟨A, n, c, rfl, hnc, hcm, hrd⟩ := h
  have Hlen := Lib.hid hrd.len
  unfold maxLen at hcm
  cases hT : isTu xs
  · have Hr := Lib.hid (tcB_no hT)
    clear hrd
    go_enter Try.func34, Try.ntmps34
    go_wp2_with fail
    refine (isTurned_any B _ xs _ (Hh.out.below ((hb1 _).mono hB)) (by simp; omega)).mono ?_
    rintro e w1 ⟨rfl, hb⟩
    rw [hT]
    have hcr : w1.cell? ⟨w.heap.size, 0, none⟩ = some (.slice none 0 0) := (hb.cell (p := ⟨w.heap.size, 0, none⟩) (by simp)).trans (by simp [go_sem])
    have hfr : w1.frozen? ⟨w.heap.size, 0, none⟩ = false := (hb.frozen (p := ⟨w.heap.size, 0, none⟩) (by simp)).trans (by simp [go_sem])
    have hw1 := (hb1 _).trans (hb.mono (by simp))
    obtain ⟨r1, r2⟩ := res_none (b := w.heap.size) hcr (by omega) hw1
    have R2 := Lib.hid r2
    clear hb r2
    go_wp2
    exact bodyPost_ret (v := .tuple #[.agg #[.slice none 0 0], .int .i64 2]) (by simp [results, Try.results34, go_sem, r1]) rfl (LiB.nil Hr.out R2.out)
  · obtain ⟨h2, hx, hy1, _, _⟩ := isTu_true.1 hT
    have HT := Lib.hid hT
    have Hy := Lib.hid (tu_pos hT)
    have Hl := isTu_len hT
    rw [Hlen.out] at h2 Hl
    obtain ⟨N, HN⟩ : ∃ N, Hid (n = N + 2) := ⟨n - 2, Lib.hid (by omega)⟩
    have hnN : (n : Int) - 2 = (N : Int) := by have := HN.out; omega
    have hNN : n - 2 = N := by have := HN.out; omega
    obtain ⟨ad, rfl, hab, hc⟩ := hrd.pos (by omega)
    go_enter Try.func34, Try.ntmps34
    go_wp2_with fail
    refine (isTurned_any B _ xs _ (Hh.out.below ((hb1 _).mono hB)) (by simp; omega)).mono ?_
    rintro e w0 ⟨rfl, hb⟩
    rw [HT.out]
    have hw0 := (hb1 _).trans (hb.mono (by simp))
    have hd0 : w0.cell? ad = some (.int .i64 (gx xs 0)) := by have := (hw0.cell (p := ad.add 0) (by rw [block_of_add]; omega)).trans (hc 0 (by omega)); simpa [Addr.add] using this
    have hd1 : w0.cell? ⟨ad.block, ad.off + 1, none⟩ = some (.int .i64 (gx xs 1)) := by have := (hw0.cell (p := ad.add 1) (by rw [block_of_add]; omega)).trans (hc 1 (by omega)); simpa [Addr.add] using this
    have hN0 : 0 < n := by omega
    have hN1 : 1 < n := by omega
    have hi0 : (0 : Int) < (n : Int) := by omega
    have hi1 : (1 : Int) < (n : Int) := by omega
    go_wp2_with fail
    go_quiet (fail)
    obtain ⟨w1, hwq⟩ : ∃ w1, w1 = w0.drewN nq := ⟨_, rfl⟩
    have hb := below_drewN hb nq
    rw [← hwq] at hb ⊢
    clear hwq hd0 hd1 hw0
    have hcr : w1.cell? ⟨w.heap.size, 0, none⟩ = some (.slice none 0 0) := (hb.cell (p := ⟨w.heap.size, 0, none⟩) (by simp)).trans (by simp [go_sem])
    have hfr : w1.frozen? ⟨w.heap.size, 0, none⟩ = false := (hb.frozen (p := ⟨w.heap.size, 0, none⟩) (by simp)).trans (by simp [go_sem])
    have hw1 := (hb1 _).trans (hb.mono (by simp))
    have hs1 : w.heap.size + 1 ≤ w1.heap.size := by have := hb.size; simp at this; omega
    have hcw : ∀ j, j < n → w1.cell? (ad.add j) = some (.int .i64 (gx xs j)) := fun j hj => (hw1.cell (by rw [block_of_add]; omega)).trans (hc j hj)
    have hc0 : w1.cell? ad = some (.int .i64 (gx xs 0)) := by have := hcw 0 (by omega); simpa [Addr.add] using this
    have hc1 : w1.cell? ⟨ad.block, ad.off + 1, none⟩ = some (.int .i64 (gx xs 1)) := by have := hcw 1 (by omega); simpa [Addr.add] using this
    have Hc2 := Lib.hid (show ∀ k, k < N → w1.cell? ((⟨ad.block, ad.off + 2, none⟩ : Addr).add k) = some (.int .i64 (gx xs (k + 2))) from fun k hk => by
      rw [← hcw (k + 2) (by omega)]
      by_cases hk0 : k = 0
      · subst hk0; simp [Addr.add]
      · simp [Addr.add, hk0, Nat.add_assoc, Nat.add_comm 2 k])
    have hN2 : 2 ≤ n := by omega
    have hi2 : (2 : Int) ≤ (n : Int) := by omega
    have hp1 : 1 ≤ gx xs 1 := hy1.1
    have hx0 : 0 ≤ gx xs 0 := by omega
    have hx9 : gx xs 0 ≤ 64 := hx.2
    have hp9 : gx xs 1 ≤ 63 := by omega
    have hv0 := Lib.hid (show Bv ((w1.alloc (.cells #[.int .i64 (gx xs 1)] 2)).alloc (.cells #[.slice (some ⟨w1.heap.size, 0, none⟩) 1 1] 27)) (w1.heap.size + 1) w1.heap.size (some ⟨w1.heap.size, 0, none⟩) 1 1 [gx xs 1] from Bv.lit w1 (gx xs 1) (Nat.le_refl _))
    have hbe0 : ∀ o o', Below w1.heap.size w1 ((w1.alloc o).alloc o') := fun o o' => ((Below.refl _ _).alloc (Nat.le_refl _) _).alloc (by simp) _
    clear hb hb1 hT hc hcw hrd
    by_cases hmod : gx xs 0 % gx xs 1 = 0
    · have hm0 : (gx xs 0 % gx xs 1 != 0) = false := by simp [hmod]
      have hv9 := Lib.hid (show Bv ((w1.alloc (.cells #[.int .i64 (gx xs 1)] 2)).alloc (.cells #[.slice (some ⟨w1.heap.size, 0, none⟩) 1 1] 27)) (w1.heap.size + 1) w1.heap.size (some ⟨w1.heap.size, 0, none⟩) 1 1 (tcL xs 0) by rw [tcL_zero, show tcH xs = [gx xs 1] by unfold tcH; rw [if_pos hmod]]; exact hv0.out)
      have hbe9 := hbe0 (.cells #[.int .i64 (gx xs 1)] 2) (.cells #[.slice (some ⟨w1.heap.size, 0, none⟩) 1 1] 27)
      clear hv0 hbe0
      clear hmod
      by_cases hcc : c = 2
      · have hN00 : N = 0 := by omega
        go_wp2
        go_loopw [36] (fun i wr => ∃ (k m : Nat) (A6 : Option Addr) (c6 : Nat), k ≤ N ∧ m ≤ k + 2 ∧ i = .int .i64 k ∧ Hid (Bv wr (w1.heap.size + 1) w1.heap.size A6 m c6 (tcL xs k)) ∧ Hid (∀ j, j < k → gx xs (j + 2) + gx xs 0 - gx xs 1 ≤ 2000) ∧ Below w1.heap.size w1 wr) (fun i _ => N - (intOf i).toNat)
        case atStart => exact ⟨0, 1, _, _, Nat.zero_le _, by omega, rfl, hv9, Lib.hid (fun j hj => by omega), hbe9⟩
        case round =>
          clear hv9 hbe9
          obtain ⟨k, m, A6, c6, hk, hmk, rfl, hv, hpre, hbe⟩ := hrel
          have hs := hbe.size
          have hbd := hv.out.bounds
          by_cases hlt : k < N
          · omega
          · obtain rfl : k = N := by omega
            have Hr := Lib.hid (tcB_good HT.out (fun j h2 h3 => by
              have := hpre.out (j - 2) (by rw [Hlen.out, HN.out] at h3; omega)
              rwa [show j - 2 + 2 = j by omega] at this))
            have hlN : xs.length - 2 = k := by rw [Hlen.out, HN.out]; omega
            rw [hlN] at Hr
            have hcx := hv.out.cell
            have hcr2 : wr.cell? ⟨w.heap.size, 0, none⟩ = some (.slice none 0 0) := (hbe.cell (p := ⟨w.heap.size, 0, none⟩) (by show w.heap.size < _; omega)).trans hcr
            have hfr2 : wr.frozen? ⟨w.heap.size, 0, none⟩ = false := (hbe.frozen (p := ⟨w.heap.size, 0, none⟩) (by show w.heap.size < _; omega)).trans hfr
            have hbw := hw1.trans (hbe.mono hw1.size)
            obtain ⟨r1, r2, r3⟩ := res_out hv.out (b := w.heap.size) (by omega) hcr2 (by omega) hbw
            have R2 := Lib.hid r2; have R3 := Lib.hid r3
            clear r2 r3 hbw hbe
            go_wp2
            exact bodyPost_ret (v := .tuple #[.agg #[.slice A6 m c6], .int .i64 0]) (by simp [results, Try.results34, go_sem, r1]) rfl ⟨_, by first | (rw [Hr.out]; done) | (rw [Hr.out]; rfl), by rw [Hr.out]; exact R2.out, R3.out⟩
      · have hcc2 : (2 : Int) < (c : Int) := by omega
        have hcc3 : 2 < c := by omega
        go_wp2
        obtain ⟨a2, hA2⟩ : ∃ a2 : Addr, a2 = ⟨ad.block, ad.off + 2, none⟩ := ⟨_, rfl⟩
        rw [← hA2] at Hc2 ⊢
        have ha2 : a2.block = ad.block := by rw [hA2]
        clear hA2
        go_loopw [36] (fun i wr => ∃ (k m : Nat) (A6 : Option Addr) (c6 : Nat), k ≤ N ∧ m ≤ k + 2 ∧ i = .int .i64 k ∧ Hid (Bv wr (w1.heap.size + 1) w1.heap.size A6 m c6 (tcL xs k)) ∧ Hid (∀ j, j < k → gx xs (j + 2) + gx xs 0 - gx xs 1 ≤ 2000) ∧ Below w1.heap.size w1 wr) (fun i _ => N - (intOf i).toNat)
        case atStart => exact ⟨0, 1, _, _, Nat.zero_le _, by omega, rfl, hv9, Lib.hid (fun j hj => by omega), hbe9⟩
        case round =>
          clear hv9 hbe9
          obtain ⟨k, m, A6, c6, hk, hmk, rfl, hv, hpre, hbe⟩ := hrel
          have hs := hbe.size
          have hbd := hv.out.bounds
          by_cases hlt : k < N
          · have hcy : wr.cell? (a2.add k) = some (.int .i64 (gx xs (k + 2))) := (hbe.cell (by rw [block_of_add, ha2]; exact Nat.lt_of_lt_of_le hab (Nat.le_trans hB hw1.size))).trans (Hc2.out k hlt)
            have hi2 : 0 ≤ (k : Int) ∧ (k : Int) < (N : Int) := by omega
            have hy := Hy.out (k + 2) (by omega) (by rw [Hlen.out, HN.out]; omega)
            by_cases hbig : 2000 < gx xs (k + 2) + gx xs 0 - gx xs 1
            · have Hr := Lib.hid (tcB_wide HT.out (k + 2) (by omega) (by rw [Hlen.out, HN.out]; omega) hbig)
              have hcr2 : wr.cell? ⟨w.heap.size, 0, none⟩ = some (.slice none 0 0) := (hbe.cell (p := ⟨w.heap.size, 0, none⟩) (by show w.heap.size < _; omega)).trans hcr
              have hfr2 : wr.frozen? ⟨w.heap.size, 0, none⟩ = false := (hbe.frozen (p := ⟨w.heap.size, 0, none⟩) (by show w.heap.size < _; omega)).trans hfr
              have hbw := hw1.trans (hbe.mono hw1.size)
              obtain ⟨n1, n2⟩ := res_none (b := w.heap.size) hcr2 (by omega) hbw
              have N2 := Lib.hid n2
              clear n2 hbw hbe
              go_wp2
              exact bodyPost_ret (v := .tuple #[.agg #[.slice none 0 0], .int .i64 5]) (by simp [results, Try.results34, go_sem, n1]) rfl (LiB.nil Hr.out N2.out)
            · have Hs2 := Lib.hid (tcL_snoc xs k)
              have Hpre2 := Lib.hid (show ∀ j, j < k + 1 → gx xs (j + 2) + gx xs 0 - gx xs 1 ≤ 2000 from fun j hj => by
                rcases Nat.lt_or_ge j k with h3 | h3
                · exact hpre.out j h3
                · obtain rfl : j = k := by omega
                  omega)
              have hcx := hv.out.cell
              have hfx := hv.out.free
              go_wp2_with (at_builtin; refine wp_append_i rfl _ _ rfl w1.heap.size _ m (tcL xs k) rfl (hv.out.own.alloc _) wr.heap.size (gx xs (k + 2) + gx xs 0 - gx xs 1) 1 rfl (by simp) (by omega) (by simp; omega) ?_)
              intro g' cap' w2 hown2 hgrow hat hlt2
              obtain ⟨q1, q2⟩ := hv.out.after hgrow rfl
              have Hv2 := Lib.hid (hv.out.step (y := gx xs (k + 2) + gx xs 0 - gx xs 1) (g := g') (cap := cap') hgrow rfl (by simpa using hown2) (by rw [World.size_alloc]; exact hat))
              rw [← Hs2.out] at Hv2
              have hbe2 := hv.out.below (Nat.le_succ _) (Nat.le_refl _) hbe hgrow ⟨rfl, rfl, rfl, rfl⟩ (.slice (some ⟨g', 0, none⟩) (m + 1) cap')
              clear hv hown2 hgrow hat hbe hcx hfx
              go_wp2
              go_roundw
              case rel => exact ⟨k + 1, m + 1, _, _, by omega, by omega, by go_num, Hv2, Hpre2, hbe2⟩
              case measure => first | (simp [intOf]; done) | (simp [intOf]; omega)
          · obtain rfl : k = N := by omega
            have Hr := Lib.hid (tcB_good HT.out (fun j h2 h3 => by
              have := hpre.out (j - 2) (by rw [Hlen.out, HN.out] at h3; omega)
              rwa [show j - 2 + 2 = j by omega] at this))
            have hlN : xs.length - 2 = k := by rw [Hlen.out, HN.out]; omega
            rw [hlN] at Hr
            have hcx := hv.out.cell
            have hcr2 : wr.cell? ⟨w.heap.size, 0, none⟩ = some (.slice none 0 0) := (hbe.cell (p := ⟨w.heap.size, 0, none⟩) (by show w.heap.size < _; omega)).trans hcr
            have hfr2 : wr.frozen? ⟨w.heap.size, 0, none⟩ = false := (hbe.frozen (p := ⟨w.heap.size, 0, none⟩) (by show w.heap.size < _; omega)).trans hfr
            have hbw := hw1.trans (hbe.mono hw1.size)
            obtain ⟨r1, r2, r3⟩ := res_out hv.out (b := w.heap.size) (by omega) hcr2 (by omega) hbw
            have R2 := Lib.hid r2; have R3 := Lib.hid r3
            clear r2 r3 hbw hbe
            go_wp2
            exact bodyPost_ret (v := .tuple #[.agg #[.slice A6 m c6], .int .i64 0]) (by simp [results, Try.results34, go_sem, r1]) rfl ⟨_, by first | (rw [Hr.out]; done) | (rw [Hr.out]; rfl), by rw [Hr.out]; exact R2.out, R3.out⟩
    · have hm0 : (gx xs 0 % gx xs 1 != 0) = true := by simp [hmod]
      have Hs1 := Lib.hid (show tcL xs 0 = [gx xs 1] ++ [gx xs 0] by rw [tcL_zero, show tcH xs = [gx xs 1, gx xs 0] by unfold tcH; rw [if_neg hmod]]; rfl)
      have hcx := hv0.out.cell
      have hfx := hv0.out.free
      go_wp2_with (at_builtin; refine wp_append_i rfl _ _ rfl w1.heap.size _ 1 [gx xs 1] rfl (hv0.out.own.alloc _) (w1.heap.size + 1 + 1) (gx xs 0) 1 rfl (by first | (simp; done) | (simp [go_sem]; done)) (by omega) (by first | (simp; done) | (simp; omega)) ?_)
      intro g' cap' w2 hown2 hgrow hat hlt2
      obtain ⟨q1, q2⟩ := hv0.out.after hgrow rfl
      have hv9 := Lib.hid (hv0.out.step (y := gx xs 0) (g := g') (cap := cap') hgrow rfl (by simpa using hown2) (by simpa using hat))
      rw [← Hs1.out] at hv9
      have hbe9 := hv0.out.below (Nat.le_succ _) (Nat.le_refl _) (hbe0 _ _) hgrow ⟨rfl, rfl, rfl, rfl⟩ (.slice (some ⟨g', 0, none⟩) (1 + 1) cap')
      clear hv0 hown2 hgrow hat hbe0 hcx hfx
      clear hmod
      by_cases hcc : c = 2
      · have hN00 : N = 0 := by omega
        go_wp2
        go_loopw [36] (fun i wr => ∃ (k m : Nat) (A6 : Option Addr) (c6 : Nat), k ≤ N ∧ m ≤ k + 2 ∧ i = .int .i64 k ∧ Hid (Bv wr (w1.heap.size + 1) w1.heap.size A6 m c6 (tcL xs k)) ∧ Hid (∀ j, j < k → gx xs (j + 2) + gx xs 0 - gx xs 1 ≤ 2000) ∧ Below w1.heap.size w1 wr) (fun i _ => N - (intOf i).toNat)
        case atStart => exact ⟨0, 2, _, _, Nat.zero_le _, by omega, rfl, hv9, Lib.hid (fun j hj => by omega), hbe9⟩
        case round =>
          clear hv9 hbe9
          obtain ⟨k, m, A6, c6, hk, hmk, rfl, hv, hpre, hbe⟩ := hrel
          have hs := hbe.size
          have hbd := hv.out.bounds
          by_cases hlt : k < N
          · omega
          · obtain rfl : k = N := by omega
            have Hr := Lib.hid (tcB_good HT.out (fun j h2 h3 => by
              have := hpre.out (j - 2) (by rw [Hlen.out, HN.out] at h3; omega)
              rwa [show j - 2 + 2 = j by omega] at this))
            have hlN : xs.length - 2 = k := by rw [Hlen.out, HN.out]; omega
            rw [hlN] at Hr
            have hcx := hv.out.cell
            have hcr2 : wr.cell? ⟨w.heap.size, 0, none⟩ = some (.slice none 0 0) := (hbe.cell (p := ⟨w.heap.size, 0, none⟩) (by show w.heap.size < _; omega)).trans hcr
            have hfr2 : wr.frozen? ⟨w.heap.size, 0, none⟩ = false := (hbe.frozen (p := ⟨w.heap.size, 0, none⟩) (by show w.heap.size < _; omega)).trans hfr
            have hbw := hw1.trans (hbe.mono hw1.size)
            obtain ⟨r1, r2, r3⟩ := res_out hv.out (b := w.heap.size) (by omega) hcr2 (by omega) hbw
            have R2 := Lib.hid r2; have R3 := Lib.hid r3
            clear r2 r3 hbw hbe
            go_wp2
            exact bodyPost_ret (v := .tuple #[.agg #[.slice A6 m c6], .int .i64 0]) (by simp [results, Try.results34, go_sem, r1]) rfl ⟨_, by first | (rw [Hr.out]; done) | (rw [Hr.out]; rfl), by rw [Hr.out]; exact R2.out, R3.out⟩
      · have hcc2 : (2 : Int) < (c : Int) := by omega
        have hcc3 : 2 < c := by omega
        go_wp2
        obtain ⟨a2, hA2⟩ : ∃ a2 : Addr, a2 = ⟨ad.block, ad.off + 2, none⟩ := ⟨_, rfl⟩
        rw [← hA2] at Hc2 ⊢
        have ha2 : a2.block = ad.block := by rw [hA2]
        clear hA2
        go_loopw [36] (fun i wr => ∃ (k m : Nat) (A6 : Option Addr) (c6 : Nat), k ≤ N ∧ m ≤ k + 2 ∧ i = .int .i64 k ∧ Hid (Bv wr (w1.heap.size + 1) w1.heap.size A6 m c6 (tcL xs k)) ∧ Hid (∀ j, j < k → gx xs (j + 2) + gx xs 0 - gx xs 1 ≤ 2000) ∧ Below w1.heap.size w1 wr) (fun i _ => N - (intOf i).toNat)
        case atStart => exact ⟨0, 2, _, _, Nat.zero_le _, by omega, rfl, hv9, Lib.hid (fun j hj => by omega), hbe9⟩
        case round =>
          clear hv9 hbe9
          obtain ⟨k, m, A6, c6, hk, hmk, rfl, hv, hpre, hbe⟩ := hrel
          have hs := hbe.size
          have hbd := hv.out.bounds
          by_cases hlt : k < N
          · have hcy : wr.cell? (a2.add k) = some (.int .i64 (gx xs (k + 2))) := (hbe.cell (by rw [block_of_add, ha2]; exact Nat.lt_of_lt_of_le hab (Nat.le_trans hB hw1.size))).trans (Hc2.out k hlt)
            have hi2 : 0 ≤ (k : Int) ∧ (k : Int) < (N : Int) := by omega
            have hy := Hy.out (k + 2) (by omega) (by rw [Hlen.out, HN.out]; omega)
            by_cases hbig : 2000 < gx xs (k + 2) + gx xs 0 - gx xs 1
            · have Hr := Lib.hid (tcB_wide HT.out (k + 2) (by omega) (by rw [Hlen.out, HN.out]; omega) hbig)
              have hcr2 : wr.cell? ⟨w.heap.size, 0, none⟩ = some (.slice none 0 0) := (hbe.cell (p := ⟨w.heap.size, 0, none⟩) (by show w.heap.size < _; omega)).trans hcr
              have hfr2 : wr.frozen? ⟨w.heap.size, 0, none⟩ = false := (hbe.frozen (p := ⟨w.heap.size, 0, none⟩) (by show w.heap.size < _; omega)).trans hfr
              have hbw := hw1.trans (hbe.mono hw1.size)
              obtain ⟨n1, n2⟩ := res_none (b := w.heap.size) hcr2 (by omega) hbw
              have N2 := Lib.hid n2
              clear n2 hbw hbe
              go_wp2
              exact bodyPost_ret (v := .tuple #[.agg #[.slice none 0 0], .int .i64 5]) (by simp [results, Try.results34, go_sem, n1]) rfl (LiB.nil Hr.out N2.out)
            · have Hs2 := Lib.hid (tcL_snoc xs k)
              have Hpre2 := Lib.hid (show ∀ j, j < k + 1 → gx xs (j + 2) + gx xs 0 - gx xs 1 ≤ 2000 from fun j hj => by
                rcases Nat.lt_or_ge j k with h3 | h3
                · exact hpre.out j h3
                · obtain rfl : j = k := by omega
                  omega)
              have hcx := hv.out.cell
              have hfx := hv.out.free
              go_wp2_with (at_builtin; refine wp_append_i rfl _ _ rfl w1.heap.size _ m (tcL xs k) rfl (hv.out.own.alloc _) wr.heap.size (gx xs (k + 2) + gx xs 0 - gx xs 1) 1 rfl (by simp) (by omega) (by simp; omega) ?_)
              intro g' cap' w2 hown2 hgrow hat hlt2
              obtain ⟨q1, q2⟩ := hv.out.after hgrow rfl
              have Hv2 := Lib.hid (hv.out.step (y := gx xs (k + 2) + gx xs 0 - gx xs 1) (g := g') (cap := cap') hgrow rfl (by simpa using hown2) (by rw [World.size_alloc]; exact hat))
              rw [← Hs2.out] at Hv2
              have hbe2 := hv.out.below (Nat.le_succ _) (Nat.le_refl _) hbe hgrow ⟨rfl, rfl, rfl, rfl⟩ (.slice (some ⟨g', 0, none⟩) (m + 1) cap')
              clear hv hown2 hgrow hat hbe hcx hfx
              go_wp2
              go_roundw
              case rel => exact ⟨k + 1, m + 1, _, _, by omega, by omega, by go_num, Hv2, Hpre2, hbe2⟩
              case measure => first | (simp [intOf]; done) | (simp [intOf]; omega)
          · obtain rfl : k = N := by omega
            have Hr := Lib.hid (tcB_good HT.out (fun j h2 h3 => by
              have := hpre.out (j - 2) (by rw [Hlen.out, HN.out] at h3; omega)
              rwa [show j - 2 + 2 = j by omega] at this))
            have hlN : xs.length - 2 = k := by rw [Hlen.out, HN.out]; omega
            rw [hlN] at Hr
            have hcx := hv.out.cell
            have hcr2 : wr.cell? ⟨w.heap.size, 0, none⟩ = some (.slice none 0 0) := (hbe.cell (p := ⟨w.heap.size, 0, none⟩) (by show w.heap.size < _; omega)).trans hcr
            have hfr2 : wr.frozen? ⟨w.heap.size, 0, none⟩ = false := (hbe.frozen (p := ⟨w.heap.size, 0, none⟩) (by show w.heap.size < _; omega)).trans hfr
            have hbw := hw1.trans (hbe.mono hw1.size)
            obtain ⟨r1, r2, r3⟩ := res_out hv.out (b := w.heap.size) (by omega) hcr2 (by omega) hbw
            have R2 := Lib.hid r2; have R3 := Lib.hid r3
            clear r2 r3 hbw hbe
            go_wp2
            exact bodyPost_ret (v := .tuple #[.agg #[.slice A6 m c6], .int .i64 0]) (by simp [results, Try.results34, go_sem, r1]) rfl ⟨_, by first | (rw [Hr.out]; done) | (rw [Hr.out]; rfl), by rw [Hr.out]; exact R2.out, R3.out⟩
end WC
end Go.Proofs.Ytpclplagkjimmaa
