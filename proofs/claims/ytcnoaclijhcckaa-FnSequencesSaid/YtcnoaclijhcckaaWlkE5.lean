/-
  WALKS, CHAPTER 4: the branch of a sequence, by the reference: the blocks.
-/
import Derived.Test.YtcnoaclijhcckaaWlkE4
import Derived.Deep.CutRange
namespace Go.Proofs.Ytcnoaclijhcckaa
open Go.RowKit
set_option linter.unusedVariables false
namespace WE
open K Pl WA WC WD WL
set_option maxRecDepth 8192 in
set_option maxHeartbeats 12800000 in
theorem l04Branch_any (B : Nat) (v : Value) (xs : List Int) (w : World) (h : Is w B v xs) (hB : B ≤ w.heap.size) (hP : ptsB xs = true) : Calls Try.prog 47 #[v] w (BsR xs w) := by
  have hp := ptsB_true.1 hP
  have Hpo := Lib.hid (fun i (hi : i < xs.length) => (hp.2.2 i hi).1)
  have Hh := Lib.hid h
  obtain ⟨A, n, c, rfl, hnc, hcm, hrd0⟩ := h
  have Hlen := Lib.hid hrd0.len
  rw [Hlen.out] at hp
  have hn1 := hp.1
  have hn4 := hp.2.1
  have Hg := Lib.hid hp.2.2
  obtain ⟨ad, rfl, hab, hc⟩ := hrd0.pos hn1
  have Hc := Lib.hid hc
  obtain ⟨e0, HE0⟩ : ∃ e0 : Nat, Hid (gx xs 0 = (e0 : Int)) := ⟨(gx xs 0).toNat, Lib.hid (by have := Hg.out 0 (by omega); omega)⟩
  have he0 : 1 ≤ e0 ∧ e0 ≤ 64 := by have := Hg.out 0 (by omega); have := HE0.out; omega
  have hcr0 : (w.alloc (.cells #[.slice none 0 0] 26)).cell? ⟨w.heap.size, 0, none⟩ = some (.slice none 0 0) := by simp [go_sem]
  have hfr0 : (w.alloc (.cells #[.slice none 0 0] 26)).frozen? ⟨w.heap.size, 0, none⟩ = false := by simp [go_sem]
  have hw0 : Below w.heap.size w (w.alloc (.cells #[.slice none 0 0] 26)) := (Below.refl _ _).alloc (Nat.le_refl _) _
  unfold maxLen at hcm
  clear hrd0 hc hP hp
  go_enter Try.func47, Try.ntmps47
  go_upto_region 0 with fail
  go_cut [2] from 12 to 157 (fun p wx => p = .pointer (some ⟨w.heap.size, 0, none⟩) ∧ wx.cell? ⟨w.heap.size, 0, none⟩ = some (.slice none 0 0) ∧ wx.frozen? ⟨w.heap.size, 0, none⟩ = false ∧ Below w.heap.size w wx ∧ w.heap.size < wx.heap.size)
  case first =>
    go_wp2
    go_meet
    exact ⟨rfl, hcr0, hfr0, hw0, by simp⟩
  case rest =>
    obtain ⟨rfl, hcr, hfr, hwr, hsw⟩ := hcut
    clear hcr0 hfr0 hw0
    obtain ⟨w0, hw0c⟩ : ∃ w0, w0 = wc := ⟨_, rfl⟩
    subst hw0c
    have Hcw := Lib.hid (show ∀ j, j < n → w0.cell? (ad.add j) = some (.int .i64 (gx xs j)) from fun j hj => (hwr.cell (by rw [block_of_add]; omega)).trans (Hc.out j hj))
    go_wp2_with fail
    go_loopw [4] (fun i wr => ∃ k : Nat, 1 ≤ k ∧ k ≤ n ∧ i = .int .i64 (k : Int) ∧ Hid (∀ j, 1 ≤ j → j < k → gx xs j ≤ gx xs (j - 1)) ∧ DrawnE w0 wr) (fun i _ => n - (intOf i).toNat)
    case atStart => exact ⟨1, Nat.le_refl _, hn1, rfl, Lib.hid (fun j h1 h2 => by omega), DrawnE.refl _⟩
    case round =>
      obtain ⟨k, hk1, hkn, rfl, hpre, hdw⟩ := hrel
      have hcrk := (hdw.cell ⟨w.heap.size, 0, none⟩).trans hcr
      have hfrk := (hdw.frozen ⟨w.heap.size, 0, none⟩).trans hfr
      have hwk := hwr.trans (hdw.below _)
      have hsk : w.heap.size < wr.heap.size := by rw [hdw.size]; exact hsw
      by_cases hlt : k < n
      · have hc1 : wr.cell? (ad.add k) = some (.int .i64 (gx xs k)) := (hdw.cell _).trans (Hcw.out k hlt)
        have hc2 : wr.cell? (ad.add (k - 1)) = some (.int .i64 (gx xs (k - 1))) := (hdw.cell _).trans (Hcw.out (k - 1) (by omega))
        have hik : 0 ≤ (k : Int) ∧ (k : Int) < (n : Int) := by omega
        have hik2 : 0 ≤ (k : Int) - 1 ∧ (k : Int) - 1 < (n : Int) := by omega
        have hik3 : (1 : Int) ≤ (k : Int) := by omega
        have hwk1 : IntKind.i64.wrap ((k : Int) - 1) = (k : Int) - 1 := IntWalk.i64_in _ (by omega)
        by_cases hup : gx xs (k - 1) < gx xs k
        · have Hno := Lib.hid (desc_no Hpo.out (by rw [Hlen.out]; exact hn1) k hk1 (by rw [Hlen.out]; exact hlt) hup)
          have hub : decide (gx xs (k - 1) < gx xs k) = true := by simpa using hup
          obtain ⟨n1, n2⟩ := res_none (b := w.heap.size) hcrk (by omega) hwk
          have N1 := Lib.hid n1; have N2 := Lib.hid n2
          clear n1 n2 hwk
          go_wp2_with fail
          go_quiet (fail)
          go_wp2
          refine bodyPost_ret (v := .tuple #[.agg #[.slice none 0 0], .bool false]) ?_ rfl (BsR.no Hno.out ⟨N2.out.os, N2.out.tape, N2.out.output, N2.out.size, N2.out.block⟩)
          have n1 : ((wr.drewN nq).setCell ⟨w.heap.size, 0, none⟩ (.slice none 0 0)).cell? ⟨w.heap.size, 0, none⟩ = some (.slice none 0 0) := N1.out
          simp [results, Try.results47, go_sem, n1]
        · have hub : decide (gx xs (k - 1) < gx xs k) = false := by simpa using hup
          have Hpre2 := Lib.hid (show ∀ j, 1 ≤ j → j < k + 1 → gx xs j ≤ gx xs (j - 1) from fun j h1 h2 => by
            rcases Nat.lt_or_ge j k with h3 | h3
            · exact hpre.out j h1 h3
            · obtain rfl : j = k := by omega
              omega)
          clear hwk
          go_wp2_with fail
          go_quiet (fail)
          go_wp2
          go_roundw
          case rel => exact ⟨k + 1, by omega, by omega, by go_num, Hpre2, hdw.drewN _⟩
          case measure => first | (simp [intOf]; done) | (simp [intOf]; omega)
      · obtain rfl : k = n := by omega
        have Hdesc := Lib.hid (show ∀ i, 1 ≤ i → i < xs.length → gx xs i ≤ gx xs (i - 1) from fun i h1 h2 => hpre.out i h1 (by rw [Hlen.out] at h2; exact h2))
        obtain ⟨cnt0, tl0, Hb0, hc01, hc02, Hd0, He0⟩ : ∃ cnt tl, Hid (blkL xs xs.length = [(e0 : Int), cnt] :: tl) ∧ 1 ≤ cnt ∧ cnt ≤ 400 ∧ Hid (Dn (e0 : Int) tl) ∧ Hid (pI (gx xs 0) 0 [gx xs 0] xs = pS (e0 : Int) cnt 0 [(e0 : Int)] tl) := by
          obtain ⟨cnt, tl, a, b, d, e, f⟩ := blk_parts Hdesc.out Hpo.out (by rw [Hlen.out]; exact hn1)
          have hps := bsq_pS (by have := HE0.out; omega) b e f
          rw [HE0.out] at a e hps
          rw [Hlen.out] at d
          exact ⟨cnt, tl, Lib.hid a, b, by omega, Lib.hid e, Lib.hid (by rw [HE0.out]; exact hps)⟩
        have Hcnt := Lib.hid (show ∀ s ∈ blkL xs xs.length, s.length ≤ 2 from blkL_len2 xs xs.length)
        clear hpre hlt
        go_wp2_with fail
        refine (l04Blocks_any B _ xs _ (Hh.out.below (hwk.mono hB)) (by omega) (by rw [Hlen.out]; omega)).mono ?_
        rintro e w1 ⟨v5, rfl, ⟨us, ow5⟩, hb5⟩
        have hcr1 := (hb5.cell (p := ⟨w.heap.size, 0, none⟩) (by show w.heap.size < _; omega)).trans hcrk
        have hfr1 := (hb5.frozen (p := ⟨w.heap.size, 0, none⟩) (by show w.heap.size < _; omega)).trans hfrk
        have hw1 := hwk.trans (hb5.mono hwk.size)
        have hs1 : w.heap.size < w1.heap.size := by have := hb5.size; omega
        obtain ⟨N, HN⟩ : ∃ N, Hid ((blkL xs xs.length).length = N) := ⟨_, Lib.hid rfl⟩
        have hN1 : 1 ≤ N := by rw [← HN.out, Hb0.out]; simp
        have hN9 : N ≤ 400 := by rw [← HN.out]; have := (blk_inv xs xs.length).1; rw [Hlen.out] at this ⊢; omega
        obtain ⟨g5, c5, e5⟩ := Go.Joins.ownsRow_form ow5.row (by rw [HN.out]; omega)
        rw [HN.out] at e5
        subst e5
        obtain ⟨hNc, hcm5⟩ : N ≤ c5 ∧ c5 ≤ 9223372036854775807 := by
          have hr := ow5.row
          rw [HN.out] at hr
          obtain ⟨A9, c9, e, h1, h2⟩ := own_shape hr
          cases e; exact ⟨h1, h2⟩
        have Ow5 := Lib.hid (show OwU w1 (w.heap.size + 1) w1.heap.size (.slice (some ⟨g5, 0, none⟩) N c5) us (blkL xs xs.length) from ow5.wide (by omega) (Nat.le_refl _))
        have hc0 : w1.cell? ad = some (.int .i64 (e0 : Int)) := by
          rw [← HE0.out]
          have := (hw1.cell (p := ad.add 0) (by rw [block_of_add]; omega)).trans (Hc.out 0 (by omega)); simpa [Addr.add] using this
        have hbl : ad.block < w1.heap.size := by omega
        have hi0 : (0 : Int) < (k : Int) := by omega
        have hv0 := Lib.hid (show Bv ((w1.alloc (.cells #[.int .i64 (e0 : Int)] 2)).alloc (.cells #[.slice (some ⟨w1.heap.size, 0, none⟩) 1 1] 26)) (w1.heap.size + 1) w1.heap.size (some ⟨w1.heap.size, 0, none⟩) 1 1 [(e0 : Int)] from Bv.lit w1 (e0 : Int) (Nat.le_refl _))
        have hbe0 : Below w1.heap.size w1 ((w1.alloc (.cells #[.int .i64 (e0 : Int)] 2)).alloc (.cells #[.slice (some ⟨w1.heap.size, 0, none⟩) 1 1] 26)) := ((Below.refl _ _).alloc (Nat.le_refl _) _).alloc (by simp) _
        have How0 := Lib.hid (Ow5.out.later hbe0)
        have Hbw0 := Lib.hid (hw1.trans (hbe0.mono hw1.size))
        have hcr2 := Lib.hid ((hbe0.cell (p := ⟨w.heap.size, 0, none⟩) (by show w.heap.size < _; omega)).trans hcr1)
        have hfr2 := Lib.hid ((hbe0.frozen (p := ⟨w.heap.size, 0, none⟩) (by show w.heap.size < _; omega)).trans hfr1)
        have hsz0 := Lib.hid (show w1.heap.size + 2 ≤ ((w1.alloc (.cells #[.int .i64 (e0 : Int)] 2)).alloc (.cells #[.slice (some ⟨w1.heap.size, 0, none⟩) 1 1] 26)).heap.size by simp)
        have H4000 := Lib.hid (show ∀ s ∈ blkL xs xs.length, gx s 1 ≤ 400 from fun s hs => by have := blk_cnt xs xs.length s hs; rw [Hlen.out] at this; omega)
        clear hb5 ow5 hcrk hfrk hwk hdw
        go_wp2_with fail
        go_loopw [7, 8, 9] (fun l a u wr => ∃ (en t m : Nat) (last cnt : Int) (T : List Int) (A6 : Option Addr) (c6 : Nat) (S tl : List (List Int)), u = .int .i64 (en : Int) ∧ l = .int .i64 last ∧ a = .int .i64 (t : Int) ∧ 1 ≤ en ∧ en ≤ 64 ∧ t < N ∧ 1 ≤ m ∧ Hid (en * 2 ^ m ≤ 128) ∧ m ≤ 64 ∧ 0 ≤ last ∧ last ≤ 30000 * (m : Int) ∧ 0 ≤ cnt ∧ cnt ≤ 400 ∧ Hid (S.length = N) ∧ Hid (S.drop t = [(en : Int), cnt] :: tl) ∧ Hid (Dn (en : Int) tl) ∧ Hid (∀ s ∈ S, gx s 1 ≤ 400) ∧ Hid (pI (gx xs 0) 0 [gx xs 0] xs = pS (en : Int) cnt last T tl) ∧ Hid (OwU wr (w.heap.size + 1) w1.heap.size (.slice (some ⟨g5, 0, none⟩) N c5) us S) ∧ wr.cell? ⟨w.heap.size, 0, none⟩ = some (.slice none 0 0) ∧ wr.frozen? ⟨w.heap.size, 0, none⟩ = false ∧ Hid (Bv wr (w1.heap.size + 1) w1.heap.size A6 m c6 T) ∧ Below w.heap.size w wr ∧ w1.heap.size + 2 ≤ wr.heap.size) (fun _ _ u _ => (intOf u).toNat)
        case atStart => exact ⟨e0, 0, 1, 0, cnt0, [(e0 : Int)], _, _, _, tl0, rfl, rfl, rfl, he0.1, he0.2, by omega, Nat.le_refl _, Lib.hid (by omega), by omega, Int.le_refl _, by omega, by omega, hc02, HN, Lib.hid (by rw [List.drop_zero]; exact Hb0.out), Hd0, H4000, He0, How0, hcr2.out, hfr2.out, hv0, Hbw0.out, hsz0.out⟩
        case round =>
          clear hv0 hbe0 How0 Hbw0 hc0 hcr2 hfr2 hsz0 H4000 Hd0 He0 Hb0 hcr1 hfr1 Ow5
          obtain ⟨en, t, m, last, cnt, T, A6, c6, S, tl, rfl, rfl, rfl, hen1, hen64, htN, hm1, Hpow, hm64, hl0, hl1, hct0, hct4, HS, HD, Hdn, H400, HQ, How, hcr2, hfr2, hv, hbw, hs2⟩ := hrel
          have hbd := hv.out.bounds
          have hbv := hv.out.lt
          by_cases hen : 1 < en
          · have hen' : (1 : Int) < (en : Int) := by omega
            obtain ⟨hm6⟩ : ∃ _ : m ≤ 6, True := ⟨half_pow Hpow.out hen, trivial⟩
            have HDt := Lib.hid (drop_at HD.out)
            obtain ⟨ga, ca, hca, hca2, hga1, hga2, hra⟩ := own_at How.out HS.out htN HDt.out.2.1
            obtain ⟨ra1, ra2, ra3, _, _⟩ := hra _ How.out
            have hit : 0 ≤ (t : Int) ∧ (t : Int) < (N : Int) := by omega
            cases tl with
            | nil =>
              have hN2 : t + 1 = N := by have := congrArg List.length HD.out; rw [List.length_drop, HS.out] at this; simp at this; omega
              have hge : (N : Int) ≤ (t : Int) + 1 := by omega
              have Hno := Lib.hid (bsq_no (by rw [HQ.out]; exact pS_nil hen'))
              obtain ⟨n1, n2⟩ := res_none (b := w.heap.size) hcr2 (by omega) hbw
              have N2 := Lib.hid n2
              clear n2 hbw hN2
              go_wp2
              exact bodyPost_ret (v := .tuple #[.agg #[.slice none 0 0], .bool false]) (by simp [results, Try.results47, go_sem, n1]) rfl (BsR.no Hno.out N2.out)
            | cons s tl =>
              obtain ⟨⟨v1, cc1, hsv, hv1, hv2, hcc1⟩, hd2⟩ := Hdn.out
              subst hsv
              have gv : gx [v1, cc1] 0 = v1 := by simp [gx]
              rw [gv] at hd2
              obtain ⟨rn, HR⟩ : ∃ rn : Nat, Hid (v1 = (rn : Int)) := ⟨v1.toNat, Lib.hid (by omega)⟩
              rw [HR.out] at HD Hdn HQ hd2 HDt hv1 hv2
              have Hd2 := Lib.hid hd2
              have HDs := Lib.hid (drop_at HDt.out.2.2)
              have ht1N : t + 1 < N := by have := HDs.out.1; rw [HS.out] at this; exact this
              have hge : ¬ (N : Int) ≤ (t : Int) + 1 := by omega
              have hit1 : 0 ≤ (t : Int) + 1 ∧ (t : Int) + 1 < (N : Int) := by omega
              have hct1 : (((t + 1 : Nat)) : Int) = (t : Int) + 1 := by omega
              obtain ⟨gb, cb, hcb, hcb2, hgb1, hgb2, hrb⟩ := own_at How.out HS.out ht1N HDs.out.2.1
              obtain ⟨rb1, rb2, rb3, _, _⟩ := hrb _ How.out
              have hbe' : ((en : Int) != (en : Int)) = false := by simp
              have hmul : 0 ≤ cnt * (en : Int) ∧ cnt * (en : Int) ≤ 400 * 64 := ⟨Int.mul_nonneg hct0 (by omega), Int.mul_le_mul hct4 (by omega) (by omega) (by omega)⟩
              have hrn : (rn : Int) < (en : Int) := hv2
              have hcx := hv.out.cell
              have hfx := hv.out.free
              have Hcc4 := Lib.hid (show cc1 ≤ 400 by have := H400.out [(rn : Int), cc1] (by rw [← HDs.out.2.1]; exact gxx_mem _ _ HDs.out.1); simpa [gx] using this)
              clear hd2 gv hra hrb
              go_wp2_with (at_builtin; refine wp_append_i rfl _ _ rfl w1.heap.size _ m T rfl (hv.out.own.alloc _) wr.heap.size (last + cnt * (en : Int) + (rn : Int)) 1 rfl (by simp) (by omega) (by simp; omega) ?_)
              intro g' cap' w4 hown4 hgrow hat hlt4
              obtain ⟨q1, q2⟩ := hv.out.after hgrow rfl
              have Hv4 := Lib.hid (hv.out.step (y := last + cnt * (en : Int) + (rn : Int)) (g := g') (cap := cap') hgrow rfl (by simpa using hown4) (by rw [World.size_alloc]; exact hat))
              have hbe4 := hv.out.below (Nat.le_succ _) (Nat.le_refl _) (Below.refl _ _) hgrow ⟨rfl, rfl, rfl, rfl⟩ (.slice (some ⟨g', 0, none⟩) (m + 1) cap')
              have How4 := Lib.hid (How.out.keep (chg_below hbe4) (.inl (Nat.le_refl _)))
              have hcr4 := (hbe4.cell (p := ⟨w.heap.size, 0, none⟩) (by show w.heap.size < _; omega)).trans hcr2
              have hfr4 := (hbe4.frozen (p := ⟨w.heap.size, 0, none⟩) (by show w.heap.size < _; omega)).trans hfr2
              have Hbw4 := Lib.hid (hbw.trans (hbe4.mono (by omega)))
              have hs4 := hbe4.size
              have hm8 : ¬ (8 : Int) < (m : Int) + 1 := by omega
              have hm8' : ¬ 8 < m + 1 := by omega
              have hcx4 := Hv4.out.cell
              have hfx4 := Hv4.out.free
              clear hown4 hgrow hat hbe4 hcx hfx How hv hbw hcr2 hfr2 ra1 ra2 ra3 rb1 rb2 rb3 hlt4
              go_wp2_with fail
              have Hin := Lib.hid (inn_spec tl (en : Int) (rn : Int) cc1 (by omega) (by omega) hcc1 Hd2.out)
              go_loopw [8, 9, 10] (fun a e r wq => ∃ (ex rx ax : Nat) (cx : Int) (tx : List (List Int)), a = .int .i64 (ax : Int) ∧ e = .int .i64 (ex : Int) ∧ r = .int .i64 (rx : Int) ∧ 1 ≤ ex ∧ ex ≤ 64 ∧ 1 ≤ rx ∧ rx ≤ 64 ∧ ax < N ∧ 1 ≤ cx ∧ cx ≤ 400 ∧ Hid (S.drop ax = [(rx : Int), cx] :: tx) ∧ Hid (Dn (rx : Int) tx) ∧ Hid (inn (ex : Int) (rx : Int) cx tx = inn (en : Int) (rn : Int) cc1 tl) ∧ DrawnE (w4.setCell ⟨w1.heap.size + 1, 0, none⟩ (.slice (some ⟨g', 0, none⟩) (m + 1) cap')) wq) (fun _ _ r _ => (intOf r).toNat)
              case atStart => exact ⟨en, rn, t + 1, cc1, tl, by go_num, rfl, rfl, hen1, hen64, by omega, by omega, ht1N, hcc1, Hcc4.out, HDt.out.2.2.symm ▸ Lib.hid rfl, Hd2, Lib.hid rfl, DrawnE.refl _⟩
              case round =>
                obtain ⟨ex, rx, ax, cx, tx, rfl, rfl, rfl, hex1, hex64, hrx1, hrx64, haxN, hcx1, hcx9, HDx, Hdx, Hinx, hdw⟩ := hrel
                have hwq := Hbw4.out.trans (hdw.below _)
                have hcrq := (hdw.cell ⟨w.heap.size, 0, none⟩).trans hcr4
                have hfrq := (hdw.frozen ⟨w.heap.size, 0, none⟩).trans hfr4
                have Howq := Lib.hid (How4.out.later (hdw.below _))
                have HDt2 := Lib.hid (drop_at HDx.out)
                obtain ⟨gq, cq, hcq, hcq2, hgq1, hgq2, hrq⟩ := own_at Howq.out HS.out haxN HDt2.out.2.1
                obtain ⟨qa1, qa2, qa3, qa4, qa5⟩ := hrq _ Howq.out
                have Hrq := Lib.hid hrq
                have haxi : 0 ≤ (ax : Int) ∧ (ax : Int) < (N : Int) := by omega
                have hrx0 : ¬ (rx : Int) = 0 := by omega
                have hpt : (ex : Int).tmod (rx : Int) = (ex : Int) % (rx : Int) := Int.tmod_eq_emod_of_nonneg (by omega)
                have hpq : IntKind.i64.wrap ((ex : Int).tdiv (rx : Int)) = (ex : Int) / (rx : Int) := div_eq (by omega) (by omega) (by omega)
                have hqb : 0 ≤ (ex : Int) / (rx : Int) ∧ (ex : Int) / (rx : Int) ≤ 64 := by
                  have h1 : 0 ≤ (ex : Int) / (rx : Int) := Int.ediv_nonneg (by omega) (by omega)
                  have h2 : (ex : Int) / (rx : Int) ≤ (ex : Int) := Int.ediv_le_self _ (by omega)
                  omega
                have hmb : 0 ≤ (ex : Int) % (rx : Int) ∧ (ex : Int) % (rx : Int) < (rx : Int) := ⟨Int.emod_nonneg _ hrx0, Int.emod_lt_of_pos _ (by omega)⟩
                have hwax : IntKind.i64.wrap ((ax : Int) + 1) = (ax : Int) + 1 := IntWalk.i64_in _ (by omega)
                clear qa5 hrq
                by_cases hmod : (ex : Int) % (rx : Int) = 0
                · have hm0 : ((ex : Int) % (rx : Int) != 0) = false := by simp [hmod]
                  have Hm0 := Lib.hid hmod
                  clear hmod
                  have hsub : IntKind.i64.wrap (cx - (ex : Int) / (rx : Int)) = cx - (ex : Int) / (rx : Int) := IntWalk.i64_in _ (by omega)
                  have hq1 : (1 : Int) < 2 := by omega
                  have Hinn := Lib.hid (show inn (ex : Int) (rx : Int) cx tx = if cx - (ex : Int) / (rx : Int) < 0 then none else some ((rx : Int), cx - (ex : Int) / (rx : Int), tx) by
                    cases tx with
                    | nil => unfold inn; rw [if_pos Hm0.out]
                    | cons s ty => unfold inn; rw [if_pos Hm0.out])
                  rw [Hinx.out] at Hinn
                  have Hqa5 := Lib.hid (Hrq.out _ Howq.out).2.2.2.2
                  have Hqa3 := Lib.hid qa3
                  go_wp2_with fail
                  go_region
                  obtain ⟨w6, hw6⟩ : ∃ w6, w6 = (wr.setCell ⟨gq, 1, none⟩ (.int .i64 (cx - (ex : Int) / (rx : Int)))).drew := ⟨_, rfl⟩
                  rw [← hw6]
                  have hchg : Chg gq (gq + 1) wr w6 := by
                    rw [hw6]; exact (Chg.setCell (p := ⟨gq, 1, none⟩) ⟨Nat.le_refl _, Nat.lt_succ_self _⟩ _).trans ⟨rfl, rfl, rfl, Nat.le_refl _, fun _ _ _ => rfl⟩
                  have How6 := Lib.hid (show OwU w6 (w.heap.size + 1) w1.heap.size (.slice (some ⟨g5, 0, none⟩) N c5) us (S.set ax [(rx : Int), cx - (ex : Int) / (rx : Int)]) by rw [hw6]; exact (Hqa5.out _).later (Below.refl _ _).drew)
                  have hc6 : w6.cell? ⟨gq, 1, none⟩ = some (.int .i64 (cx - (ex : Int) / (rx : Int))) := by rw [hw6]; exact World.cell?_setCell_same _ _ _ Hqa3.out
                  have Hv6 := Lib.hid (Bv.chg (Hv4.out.later (hdw.below _)) hchg (by omega) (by omega))
                  have hcr6 := hchg.cell hcrq (.inl (by omega))
                  have hfr6 : w6.frozen? ⟨w.heap.size, 0, none⟩ = false := (World.frozen?_of_block (w := wr) (hchg.block w.heap.size (World.block_lt_of_cell? wr ⟨w.heap.size, 0, none⟩ hcrq) (by omega))).trans hfrq
                  have hbw6 : Below w.heap.size w w6 := by rw [hw6]; exact (hwq.setCell (p := ⟨gq, 1, none⟩) (by show w.heap.size ≤ gq; omega) _).drew
                  have hs6 : w1.heap.size + 2 ≤ w6.heap.size := Hv6.out.lt
                  clear hw6 qa1 qa2 qa3 qa4 hcrq hfrq hwq hchg hdw hsub hpt hpq
                  by_cases hneg : cx - (ex : Int) / (rx : Int) < 0
                  · have Hno := Lib.hid (bsq_no (by rw [HQ.out]; exact pS_no hen' (by
                      rw [show gx [(rn : Int), cc1] 0 = (rn : Int) from rfl, show gx [(rn : Int), cc1] 1 = cc1 from rfl, Hinn.out, if_pos hneg])))
                    obtain ⟨n1, n2⟩ := res_none (b := w.heap.size) hcr6 (by omega) hbw6
                    have N2 := Lib.hid n2
                    clear n2 hbw6
                    go_wp2
                    exact bodyPost_ret (v := .tuple #[.agg #[.slice none 0 0], .bool false]) (by simp [results, Try.results47, go_sem, n1]) rfl (BsR.no Hno.out N2.out)
                  · rw [if_neg hneg] at Hinn
                    have HI := Lib.hid (show InnOk (en : Int) (rn : Int) cc1 tl (some ((rx : Int), cx - (ex : Int) / (rx : Int), tx)) by rw [← Hinn.out]; exact Hin.out)
                    have Hrg := Lib.hid (show (rx : Int) = gcdI (en : Int) (rn : Int) from HI.out.1)
                    have hhalf : 2 * rx ≤ en := by have := gcd_half (e := (en : Int)) (r := (rn : Int)) (by omega) (by omega) hrn; have := Hrg.out; omega
                    have HQ6 := Lib.hid (show pI (gx xs 0) 0 [gx xs 0] xs = pS (rx : Int) (cx - (ex : Int) / (rx : Int)) (last + cnt * (en : Int) + (rn : Int)) (T ++ [last + cnt * (en : Int) + (rn : Int)]) tx by
                      rw [HQ.out, pS_go hen' (by rw [show gx [(rn : Int), cc1] 0 = (rn : Int) from rfl, show gx [(rn : Int), cc1] 1 = cc1 from rfl]; exact Hinn.out) HI.out.2.2.2.1]
                      rw [show gx [(rn : Int), cc1] 0 = (rn : Int) from rfl, show last + (cnt * (en : Int) + (rn : Int)) = last + cnt * (en : Int) + (rn : Int) by omega])
                    have Hpow6 := Lib.hid (half_step Hpow.out hhalf)
                    have HS6 := Lib.hid (show (S.set ax [(rx : Int), cx - (ex : Int) / (rx : Int)]).length = N by rw [List.length_set]; exact HS.out)
                    have HD6 := Lib.hid (drop_set (b := [(rx : Int), cx - (ex : Int) / (rx : Int)]) HDx.out)
                    have H406 := Lib.hid (show ∀ s ∈ S.set ax [(rx : Int), cx - (ex : Int) / (rx : Int)], gx s 1 ≤ 400 from fun s hs => by
                      rcases List.mem_or_eq_of_mem_set hs with h | h
                      · exact H400.out s h
                      · subst h; show cx - (ex : Int) / (rx : Int) ≤ 400; omega)
                    obtain ⟨cn, HCN⟩ : ∃ cn, Hid (cx - (ex : Int) / (rx : Int) = cn) := ⟨_, Lib.hid rfl⟩
                    rw [HCN.out] at How6 hc6 HQ6 HS6 HD6 H406 hneg
                    have hcn : 0 ≤ cn ∧ cn ≤ 400 := by have := HCN.out; omega
                    go_wp2
                    trace_state
                    go_roundw
                    case rel => exact ⟨rx, ax, m + 1, last + cnt * (en : Int) + (rn : Int), cn, _, _, _, _, tx, rfl, rfl, rfl, hrx1, hrx64, haxN, by omega, Hpow6, by omega, by omega, by omega, hcn.1, hcn.2, HS6, HD6, Hdx, H406, HQ6, How6, hcr6, hfr6, Hv6, hbw6, hs6⟩
                    case measure => first | (simp [intOf]; done) | (simp [intOf]; omega)
                · have hm0 : ((ex : Int) % (rx : Int) != 0) = true := by simp [hmod]
                  have Hm0 := Lib.hid hmod
                  clear hmod
                  by_cases hq : cx = (ex : Int) / (rx : Int)
                  · have hq0 : (cx != (ex : Int) / (rx : Int)) = false := by simp [hq]
                    have Hq := Lib.hid hq
                    clear hq
                    cases tx with
                    | nil =>
                      have hN2 : ax + 1 = N := by have := congrArg List.length HDx.out; rw [List.length_drop, HS.out] at this; simp at this; omega
                      have hgeN : (N : Int) ≤ (ax : Int) + 1 := by omega
                      have hged : decide ((N : Int) ≤ (ax : Int) + 1) = true := by simpa using hgeN
                      have Hno := Lib.hid (bsq_no (by rw [HQ.out]; exact pS_no hen' (by
                        rw [show gx [(rn : Int), cc1] 0 = (rn : Int) from rfl, show gx [(rn : Int), cc1] 1 = cc1 from rfl, ← Hinx.out]
                        unfold inn; rw [if_neg Hm0.out])))
                      obtain ⟨n1, n2⟩ := res_none (b := w.heap.size) hcrq (by omega) hwq
                      have N1 := Lib.hid n1; have N2 := Lib.hid n2
                      clear n1 n2 hwq hN2
                      go_wp2_with fail
                      go_quiet (fail)
                      go_wp2
                      refine bodyPost_ret (v := .tuple #[.agg #[.slice none 0 0], .bool false]) ?_ rfl (BsR.no Hno.out ⟨N2.out.os, N2.out.tape, N2.out.output, N2.out.size, N2.out.block⟩)
                      have n1 : ((wr.drewN nq).setCell ⟨w.heap.size, 0, none⟩ (.slice none 0 0)).cell? ⟨w.heap.size, 0, none⟩ = some (.slice none 0 0) := N1.out
                      simp [results, Try.results47, go_sem, n1]
                    | cons s ty =>
                      obtain ⟨⟨v2, cc2, hsv2, hy1, hy2, hcc2⟩, hd3⟩ := Hdx.out
                      subst hsv2
                      have gv2 : gx [v2, cc2] 0 = v2 := rfl
                      rw [gv2] at hd3
                      obtain ⟨yn, HY⟩ : ∃ yn : Nat, Hid (v2 = (yn : Int)) := ⟨v2.toNat, Lib.hid (by omega)⟩
                      rw [HY.out] at HDx Hdx Hinx hd3 HDt2 hy1 hy2
                      have Hd3 := Lib.hid hd3
                      have HDs2 := Lib.hid (drop_at HDt2.out.2.2)
                      have hax1 : ax + 1 < N := by have := HDs2.out.1; rw [HS.out] at this; exact this
                      have hgeN : ¬ (N : Int) ≤ (ax : Int) + 1 := by omega
                      have hged : decide ((N : Int) ≤ (ax : Int) + 1) = false := by simpa using hgeN
                      have haxi1 : 0 ≤ (ax : Int) + 1 ∧ (ax : Int) + 1 < (N : Int) := by omega
                      have hact : (((ax + 1 : Nat)) : Int) = (ax : Int) + 1 := by omega
                      obtain ⟨gy, cy, hcy, hcy2, hgy1, hgy2, hry⟩ := own_at Howq.out HS.out hax1 HDs2.out.2.1
                      obtain ⟨qb1, qb2, qb3, _, _⟩ := hry _ Howq.out
                      have Hcy4 := Lib.hid (show cc2 ≤ 400 by have := H400.out [(yn : Int), cc2] (by rw [← HDs2.out.2.1]; exact gxx_mem _ _ HDs2.out.1); simpa [gx] using this)
                      clear hd3 gv2 hry
                      by_cases hyv : (yn : Int) = (ex : Int) % (rx : Int)
                      · have hyb : ((yn : Int) != (ex : Int) % (rx : Int)) = false := by simp [hyv]
                        have Hin2 := Lib.hid (show inn (rx : Int) (yn : Int) cc2 ty = inn (en : Int) (rn : Int) cc1 tl by
                          rw [← Hinx.out]
                          conv => rhs; unfold inn
                          rw [if_neg Hm0.out, if_neg (by simpa using Hq.out), if_neg (by simpa [gx] using hyv)]
                          rfl)
                        clear hyv
                        go_wp2_with fail
                        go_quiet (fail)
                        go_wp2
                        go_roundw
                        case rel => exact ⟨rx, yn, ax + 1, cc2, ty, by go_num, rfl, rfl, hrx1, hrx64, by omega, by omega, hax1, hcc2, Hcy4.out, Lib.hid HDt2.out.2.2, Hd3, Hin2, hdw.drewN _⟩
                        case measure => first | (simp [intOf]; done) | (simp [intOf]; omega)
                      · have hyb : ((yn : Int) != (ex : Int) % (rx : Int)) = true := by simp [hyv]
                        have Hno := Lib.hid (bsq_no (by rw [HQ.out]; exact pS_no hen' (by
                          rw [show gx [(rn : Int), cc1] 0 = (rn : Int) from rfl, show gx [(rn : Int), cc1] 1 = cc1 from rfl, ← Hinx.out]
                          unfold inn; rw [if_neg Hm0.out, if_neg (by simpa using Hq.out), if_pos (by simpa [gx] using hyv)])))
                        obtain ⟨n1, n2⟩ := res_none (b := w.heap.size) hcrq (by omega) hwq
                        have N1 := Lib.hid n1; have N2 := Lib.hid n2
                        clear n1 n2 hwq hyv
                        go_wp2_with fail
                        go_quiet (fail)
                        go_wp2
                        refine bodyPost_ret (v := .tuple #[.agg #[.slice none 0 0], .bool false]) ?_ rfl (BsR.no Hno.out ⟨N2.out.os, N2.out.tape, N2.out.output, N2.out.size, N2.out.block⟩)
                        have n1 : ((wr.drewN nq).setCell ⟨w.heap.size, 0, none⟩ (.slice none 0 0)).cell? ⟨w.heap.size, 0, none⟩ = some (.slice none 0 0) := N1.out
                        simp [results, Try.results47, go_sem, n1]
                  · have hq0 : (cx != (ex : Int) / (rx : Int)) = true := by simp [hq]
                    have Hno := Lib.hid (bsq_no (by rw [HQ.out]; exact pS_no hen' (by
                      rw [show gx [(rn : Int), cc1] 0 = (rn : Int) from rfl, show gx [(rn : Int), cc1] 1 = cc1 from rfl, ← Hinx.out]
                      cases tx with
                      | nil => unfold inn; rw [if_neg Hm0.out]
                      | cons s ty => unfold inn; rw [if_neg Hm0.out, if_pos hq])))
                    obtain ⟨n1, n2⟩ := res_none (b := w.heap.size) hcrq (by omega) hwq
                    have N1 := Lib.hid n1; have N2 := Lib.hid n2
                    clear n1 n2 hwq hq
                    go_wp2_with fail
                    go_quiet (fail)
                    go_wp2
                    refine bodyPost_ret (v := .tuple #[.agg #[.slice none 0 0], .bool false]) ?_ rfl (BsR.no Hno.out ⟨N2.out.os, N2.out.tape, N2.out.output, N2.out.size, N2.out.block⟩)
                    have n1 : ((wr.drewN nq).setCell ⟨w.heap.size, 0, none⟩ (.slice none 0 0)).cell? ⟨w.heap.size, 0, none⟩ = some (.slice none 0 0) := N1.out
                    simp [results, Try.results47, go_sem, n1]
          · obtain rfl : en = 1 := by omega
            have hen' : ¬ (1 : Int) < ((1 : Nat) : Int) := by omega
            have Hsome := Lib.hid (show pI (gx xs 0) 0 [gx xs 0] xs = some T by rw [HQ.out]; exact pS_one hen')
            have Hm2 := Lib.hid ((hv.out.ow (Nat.le_refl _)).is)
            have hcx := hv.out.cell
            cases hR : isBr T
            · have Hno := Lib.hid (bsq_br Hsome.out hR)
              go_wp2_with fail
              refine (l03Is_any _ _ T _ Hm2.out (Nat.le_refl _)).mono ?_
              rintro e w3 ⟨rfl, hb3⟩
              rw [hR]
              have hcr3 := (hb3.cell (p := ⟨w.heap.size, 0, none⟩) (by show w.heap.size < _; omega)).trans hcr2
              have hfr3 := (hb3.frozen (p := ⟨w.heap.size, 0, none⟩) (by show w.heap.size < _; omega)).trans hfr2
              obtain ⟨n1, n2⟩ := res_none (b := w.heap.size) hcr3 (by omega) (hbw.trans (hb3.mono hbw.size))
              have N2 := Lib.hid n2
              clear n2 hb3 hbw
              go_wp2
              exact bodyPost_ret (v := .tuple #[.agg #[.slice none 0 0], .bool false]) (by simp [results, Try.results47, go_sem, n1]) rfl (BsR.no Hno.out N2.out)
            · have Hyes := Lib.hid (bsq_yes Hsome.out hR)
              go_wp2_with fail
              refine (l03Is_any _ _ T _ Hm2.out (Nat.le_refl _)).mono ?_
              rintro e w3 ⟨rfl, hb3⟩
              rw [hR]
              have hv3 := hv.out.later hb3
              have hcx3 := hv3.cell
              have hcr3 := (hb3.cell (p := ⟨w.heap.size, 0, none⟩) (by show w.heap.size < _; omega)).trans hcr2
              have hfr3 := (hb3.frozen (p := ⟨w.heap.size, 0, none⟩) (by show w.heap.size < _; omega)).trans hfr2
              obtain ⟨r1, r2, r3⟩ := res_out hv3 (b := w.heap.size) (by omega) hcr3 (by omega) (hbw.trans (hb3.mono hbw.size))
              have R2 := Lib.hid r2; have R3 := Lib.hid r3
              clear r2 r3 hb3 hbw hv3
              go_wp2
              exact bodyPost_ret (v := .tuple #[.agg #[.slice A6 m c6], .bool true]) (by simp [results, Try.results47, go_sem, r1]) rfl ⟨_, T, true, rfl, R2.out, R3.out, by rw [Hyes.out]; rfl, fun _ => Hyes.out⟩
end WE
end Go.Proofs.Ytcnoaclijhcckaa
