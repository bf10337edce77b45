/-
  WALKS, CHAPTER 3: pairs.
  WALKS, CHAPTER 3: pairs, one list of them after another.
  WALKS, CHAPTER 3: pairs, one list of them after another.
-/
import Derived.Test.YtcnoaclijhcckaaWlkC5
import Derived.Test.YtcnoaclijhcckaaWlkR2
import Derived.Test.YtcnoaclijhcckaaKitT
import Derived.Test.YtcnoaclijhcckaaPlH
namespace Go.Proofs.Ytcnoaclijhcckaa
open Go.RowKit
set_option linter.unusedVariables false
namespace WC
open K Pl WA WL
theorem div_eq64 {a b : Int} (ha : 0 ≤ a) (hb : 1 ≤ b) (ha' : a ≤ 9000000000000000000) : IntKind.i64.wrap (a.tdiv b) = a / b ∧ 0 ≤ a / b ∧ a / b ≤ a := by
  rw [Int.tdiv_eq_ediv_of_nonneg ha]
  have h1 : 0 ≤ a / b := Int.ediv_nonneg ha (by omega)
  have h2 : a / b ≤ a := Int.ediv_le_self _ ha
  exact ⟨IntWalk.i64_in _ (by omega), h1, h2⟩
end WC
end Go.Proofs.Ytcnoaclijhcckaa
namespace Go.Proofs.Ytcnoaclijhcckaa
open Go.RowKit
set_option linter.unusedVariables false
namespace WC
open K Pl WA WL
theorem two_row {w w1 w2 : World} {lo g cap n : Nat} {v : Value} {us : List Value} {xss : List (List Int)} {a b : Int} (h : OwU w lo w.heap.size v us xss) (hn : xss.length = n) (hlo : lo ≤ w.heap.size) (hg : w1.grownBy w2 v.ownBlock)
    (hW : w1.heap = ((w.alloc (.cells #[.int .i64 a, .int .i64 b] 2)).alloc (.cells #[.slice (some ⟨w.heap.size, 0, none⟩) 2 2] 24)).heap ∧ w1.os = w.os ∧ w1.tape = w.tape ∧ w1.output = w.output)
    (ho : w2.ownsRow lo 24 1 (.slice (some ⟨g, 0, none⟩) (n + 1) cap) (n + 1) (us ++ [.slice (some ⟨w.heap.size, 0, none⟩) 2 2])) (hat : v.ownBlock = some g ∨ g = w1.heap.size) :
    OwU w2 lo w2.heap.size (.slice (some ⟨g, 0, none⟩) (n + 1) cap) (us ++ [.slice (some ⟨w.heap.size, 0, none⟩) 2 2]) (xss ++ [[a, b]]) ∧ (∀ B w0, Below B w0 w → B ≤ lo → Below B w0 w2) := by
  subst hn
  exact OwU.two h (Nat.le_refl _) hlo hW ho hg hat
end WC
end Go.Proofs.Ytcnoaclijhcckaa
namespace Go.Proofs.Ytcnoaclijhcckaa
open Go.RowKit
set_option linter.unusedVariables false
namespace WC
open K Pl WA WL
set_option maxHeartbeats 3200000 in
theorem l03Newton_any (B : Nat) (v : Value) (xs : List Int) (w : World) (h : Is w B v xs) (hB : B ≤ w.heap.size) (hR : isBr xs = true) :
    Calls Try.prog 71 #[.agg #[v]] w fun e w' => ∃ v', e = .returned v' ∧ OwR w' w.heap.size w'.heap.size v' (newL xs (xs.length - 1)) ∧ Below w.heap.size w w' := by
  have Hh := Lib.hid h
  have Hg := Lib.hid (isBr_rg hR)
  have H7 := isBr_len_le hR
  have Hl := Lib.hid (show xs.length ≤ 1000000000 by omega)
  have Hdg := Lib.hid (isBr_dg hR)
  have Hrg := Lib.hid (isBr_range hR)
  have Hst := Lib.hid (stp_bd hR)
  have HR := Lib.hid hR
  have H1 := (isBr_true.1 hR).1
  have Hp := Lib.hid H1
  have hb1 : ∀ o, Below w.heap.size w (w.alloc o) := fun o => (Below.refl _ _).alloc (Nat.le_refl _) o
  obtain ⟨A, n, c, rfl, hnc, hcm, hrd⟩ := h
  have Hn := Lib.hid hrd.len
  rw [Hn.out] at H7 H1
  obtain ⟨ad, rfl, hab, hc⟩ := hrd.pos H1
  have Hc := Lib.hid hc
  unfold maxLen at hcm
  clear hrd hR hc
  go_enter Try.func71, Try.ntmps71
  go_wp2_with fail
  refine (l03Divisors_any B _ xs _ (Hh.out.below ((hb1 _).mono hB)) (by simp; omega) Hp.out Hl.out Hg).mono ?_
  rintro e w2 ⟨v1, rfl, ow1, hbx⟩
  have hw2 := (hb1 _).trans (hbx.mono (by simp))
  have hcb : w2.cell? ⟨w.heap.size, 0, none⟩ = some (.slice (some ad) n c) := (hbx.cell (p := ⟨w.heap.size, 0, none⟩) (by simp)).trans (by simp [go_sem])
  have hs2 := hw2.size
  obtain ⟨A1, n2, c1, rfl, hnc1, hcm1, hrd1⟩ := ow1.is
  obtain rfl : n2 = n := by have := hrd1.len; rw [divs_len, Hn.out] at this; omega
  obtain ⟨ad1, rfl, hab1, hc1⟩ := hrd1.pos H1
  have Hc1 := Lib.hid (show ∀ j, j < n2 → w2.cell? (ad1.add j) = some (.int .i64 (dg xs (j + 1))) from fun j hj => by rw [hc1 j hj, gx_divs _ _ (by rw [Hn.out]; exact hj)])
  have h0 := OwU.lit w2 (lo := w2.heap.size) (Nat.le_refl _)
  have hbe0 : ∀ o, Below w2.heap.size w2 (w2.alloc o) := fun o => (Below.refl _ _).alloc (Nat.le_refl _) o
  have h00 := Lib.hid (show OwU (w2.alloc (.cells #[] 24)) w2.heap.size (w2.alloc (.cells #[] 24)).heap.size (.slice (some ⟨w2.heap.size, 0, none⟩) 0 0) [] (newL xs 0) by simpa [newL] using h0)
  clear h0 hb1 hbx ow1 hrd1 hc1
  go_wp2
  go_loopw [4, 5, 6] (fun u i _c wr => ∃ (q m : Nat) (us : List Value) (A6 : Option Addr) (c6 : Nat), 1 ≤ q ∧ q ≤ n2 ∧ m ≤ q ∧ Hid (q = m + 1) ∧ i = .int .i64 (q : Int) ∧ u = .slice A6 m c6 ∧ Hid (OwU wr w2.heap.size wr.heap.size (.slice A6 m c6) us (newL xs m)) ∧ Below w2.heap.size w2 wr) (fun _ i _c _ => n2 - (intOf i).toNat)
  case atStart => exact ⟨1, 0, [], _, 0, by omega, H1, by omega, Lib.hid rfl, rfl, rfl, h00, hbe0 _⟩
  case round =>
    clear h00 hbe0
    obtain ⟨q, m, us, A6, c6, hq1, hqn, hmq, hqm, rfl, rfl, how, hbe⟩ := hrel
    have hs := hbe.size
    have Hll := Lib.hid (newL_len xs m)
    have hrow : wr.ownsRow w2.heap.size 24 1 (.slice A6 m c6) m us := by have h := how.out.row; rw [Hll.out] at h; exact h
    by_cases hlt : q < n2
    · have hbl : w.heap.size < w2.heap.size := World.block_lt_of_cell? w2 ⟨w.heap.size, 0, none⟩ hcb
      have hcb2 : wr.cell? ⟨w.heap.size, 0, none⟩ = some (.slice (some ad) n2 c) := (hbe.cell (p := ⟨w.heap.size, 0, none⟩) hbl).trans hcb
      have hcx : wr.cell? (ad.add q) = some (.int .i64 (gx xs q)) := (hbe.cell (by rw [block_of_add]; omega)).trans ((hw2.cell (by rw [block_of_add]; omega)).trans (Hc.out q hlt))
      have hce : wr.cell? (ad1.add q) = some (.int .i64 (dg xs (q + 1))) := (hbe.cell (by rw [block_of_add]; exact hab1)).trans (Hc1.out q hlt)
      have hcn : wr.cell? (ad1.add (q - 1)) = some (.int .i64 (dg xs q)) := by
        have e := (hbe.cell (p := ad1.add (q - 1)) (by rw [block_of_add]; exact hab1)).trans (Hc1.out (q - 1) (by omega))
        rwa [show q - 1 + 1 = q by omega] at e
      have hi1 : 0 ≤ (q : Int) ∧ (q : Int) < (n2 : Int) := by omega
      have hgx := Hrg.out q (by rw [Hn.out]; exact hlt)
      have hst := Hst.out q hq1 (by rw [Hn.out]; exact hlt)
      have hd1 := Hdg.out (q + 1) (by omega)
      have hd2 := Hdg.out q hq1
      have hd0 : ¬ dg xs (q + 1) = 0 := by omega
      by_cases hm1 : (1 : Int) < (q : Int)
      · have hcx2 : wr.cell? (ad.add (q - 1)) = some (.int .i64 (gx xs (q - 1))) := (hbe.cell (by rw [block_of_add]; omega)).trans ((hw2.cell (by rw [block_of_add]; omega)).trans (Hc.out (q - 1) (by omega)))
        have hgx2 := Hrg.out (q - 1) (by rw [Hn.out]; omega)
        have hi2 : 0 ≤ (q : Int) - 1 ∧ (q : Int) - 1 < (n2 : Int) := by omega
        have Hse2 := Lib.hid (stp_more (xs := xs) (i := q) hm1).symm
        have Hsn := Lib.hid (show newL xs (m + 1) = newL xs m ++ [[stp xs q / dg xs (q + 1), dg xs q / dg xs (q + 1)]] by rw [newL_snoc, hqm.out])
        have hq := (div_eq64 (a := stp xs q) (b := dg xs (q + 1)) (by omega) hd1.1 (by omega)).1
        have hwk : IntKind.i64.wrap ((q : Int) - 1) = (q : Int) - 1 := IntWalk.i64_in _ (by omega)
        have hi3 : 0 ≤ (q : Int) - 1 ∧ (q : Int) - 1 < (n2 : Int) := by omega
        have hi4 : (1 : Int) ≤ (q : Int) := by omega
        have hq2 := (div_eq64 (a := dg xs q) (b := dg xs (q + 1)) (by omega) hd1.1 (by omega)).1
        have S0 : wr.cell? (ad1.add q) = some (.int .i64 (dg xs (q + 1))) ∧ wr.cell? (ad1.add (q - 1)) = some (.int .i64 (dg xs q)) := ⟨hce, hcn⟩
        have S1 : ∀ o, (wr.alloc o).cell? (ad1.add q) = some (.int .i64 (dg xs (q + 1))) ∧ (wr.alloc o).cell? (ad1.add (q - 1)) = some (.int .i64 (dg xs q)) := fun o => ⟨cell_alloc hce o, cell_alloc hcn o⟩
        have S2 : ∀ o o', ((wr.alloc o).alloc o').cell? (ad1.add q) = some (.int .i64 (dg xs (q + 1))) ∧ ((wr.alloc o).alloc o').cell? (ad1.add (q - 1)) = some (.int .i64 (dg xs q)) := fun o o' => ⟨cell_alloc (cell_alloc hce o) o', cell_alloc (cell_alloc hcn o) o'⟩
        go_wp2_with fail
        rw [Hse2.out]
        go_region_held3 (fun W => W.cell? (ad1.add q) = some (.int .i64 (dg xs (q + 1))) ∧ W.cell? (ad1.add (q - 1)) = some (.int .i64 (dg xs q))) (first | exact S0 | exact S1 _ | exact S2 _ _ | exact S3)
          (first | (refine step_append_r (by rfl) _ _ (by rfl) w2.heap.size (.slice A6 m c6) m us (by simp [Act.eval]) ((hrow.alloc _).alloc _) (wr.heap.size + 1) (some ⟨wr.heap.size, 0, none⟩) 2 2 1 (by simp [Act.eval]) (by simp [go_sem]) (by omega) (by simp; omega) ?_; intro g' cap' w3 hown3 hgrow hat hlt3; have rlo := fun k' e => (hrow.lt k' e).1; have S3 := (show w3.cell? (ad1.add q) = some (.int .i64 (dg xs (q + 1))) ∧ w3.cell? (ad1.add (q - 1)) = some (.int .i64 (dg xs q)) from ⟨low_cell (lo := w2.heap.size) hgrow rlo (by rw [block_of_add]; exact hab1) (cell_alloc (cell_alloc hce _) _), low_cell (lo := w2.heap.size) hgrow rlo (by rw [block_of_add]; exact hab1) (cell_alloc (cell_alloc hcn _) _)⟩)))
        have T2 := two_row (a := stp xs q / dg xs (q + 1)) (b := dg xs q / dg xs (q + 1)) how.out Hll.out hs hgrow ⟨rfl, rfl, rfl, rfl⟩ hown3 (by first | exact hat | simpa using hat)
        rw [← Hsn.out] at T2
        have How3 := Lib.hid T2.1
        have hbe3 := T2.2 _ _ hbe (Nat.le_refl _)
        clear T2 hown3 hgrow hat hrow how hbe S0 S1 S2 S3 hq hq2 hwk
        go_wp2_with fail
        go_roundw
        case rel => exact ⟨q + 1, m + 1, _, _, _, by omega, by omega, by omega, Lib.hid (by rw [hqm.out]), by go_num, rfl, How3, hbe3⟩
        case measure => first | (simp [intOf]; done) | (simp [intOf]; omega)
      · have Hse2 := Lib.hid (stp_one (xs := xs) (i := q) hm1).symm
        have Hsn := Lib.hid (show newL xs (m + 1) = newL xs m ++ [[stp xs q / dg xs (q + 1), dg xs q / dg xs (q + 1)]] by rw [newL_snoc, hqm.out])
        have hq := (div_eq64 (a := stp xs q) (b := dg xs (q + 1)) (by omega) hd1.1 (by omega)).1
        have hwk : IntKind.i64.wrap ((q : Int) - 1) = (q : Int) - 1 := IntWalk.i64_in _ (by omega)
        have hi3 : 0 ≤ (q : Int) - 1 ∧ (q : Int) - 1 < (n2 : Int) := by omega
        have hi4 : (1 : Int) ≤ (q : Int) := by omega
        have hq2 := (div_eq64 (a := dg xs q) (b := dg xs (q + 1)) (by omega) hd1.1 (by omega)).1
        have S0 : wr.cell? (ad1.add q) = some (.int .i64 (dg xs (q + 1))) ∧ wr.cell? (ad1.add (q - 1)) = some (.int .i64 (dg xs q)) := ⟨hce, hcn⟩
        have S1 : ∀ o, (wr.alloc o).cell? (ad1.add q) = some (.int .i64 (dg xs (q + 1))) ∧ (wr.alloc o).cell? (ad1.add (q - 1)) = some (.int .i64 (dg xs q)) := fun o => ⟨cell_alloc hce o, cell_alloc hcn o⟩
        have S2 : ∀ o o', ((wr.alloc o).alloc o').cell? (ad1.add q) = some (.int .i64 (dg xs (q + 1))) ∧ ((wr.alloc o).alloc o').cell? (ad1.add (q - 1)) = some (.int .i64 (dg xs q)) := fun o o' => ⟨cell_alloc (cell_alloc hce o) o', cell_alloc (cell_alloc hcn o) o'⟩
        go_wp2_with fail
        rw [Hse2.out]
        go_region_held3 (fun W => W.cell? (ad1.add q) = some (.int .i64 (dg xs (q + 1))) ∧ W.cell? (ad1.add (q - 1)) = some (.int .i64 (dg xs q))) (first | exact S0 | exact S1 _ | exact S2 _ _ | exact S3)
          (first | (refine step_append_r (by rfl) _ _ (by rfl) w2.heap.size (.slice A6 m c6) m us (by simp [Act.eval]) ((hrow.alloc _).alloc _) (wr.heap.size + 1) (some ⟨wr.heap.size, 0, none⟩) 2 2 1 (by simp [Act.eval]) (by simp [go_sem]) (by omega) (by simp; omega) ?_; intro g' cap' w3 hown3 hgrow hat hlt3; have rlo := fun k' e => (hrow.lt k' e).1; have S3 := (show w3.cell? (ad1.add q) = some (.int .i64 (dg xs (q + 1))) ∧ w3.cell? (ad1.add (q - 1)) = some (.int .i64 (dg xs q)) from ⟨low_cell (lo := w2.heap.size) hgrow rlo (by rw [block_of_add]; exact hab1) (cell_alloc (cell_alloc hce _) _), low_cell (lo := w2.heap.size) hgrow rlo (by rw [block_of_add]; exact hab1) (cell_alloc (cell_alloc hcn _) _)⟩)))
        have T2 := two_row (a := stp xs q / dg xs (q + 1)) (b := dg xs q / dg xs (q + 1)) how.out Hll.out hs hgrow ⟨rfl, rfl, rfl, rfl⟩ hown3 (by first | exact hat | simpa using hat)
        rw [← Hsn.out] at T2
        have How3 := Lib.hid T2.1
        have hbe3 := T2.2 _ _ hbe (Nat.le_refl _)
        clear T2 hown3 hgrow hat hrow how hbe S0 S1 S2 S3 hq hq2 hwk
        go_wp2_with fail
        go_roundw
        case rel => exact ⟨q + 1, m + 1, _, _, _, by omega, by omega, by omega, Lib.hid (by rw [hqm.out]), by go_num, rfl, How3, hbe3⟩
        case measure => first | (simp [intOf]; done) | (simp [intOf]; omega)
    · obtain rfl : q = n2 := by omega
      have Hm := Lib.hid (show xs.length - 1 = m by rw [Hn.out]; have := hqm.out; omega)
      go_wp2
      go_ret
      exact ⟨_, rfl, by rw [Hm.out]; exact (show OwR wr w2.heap.size wr.heap.size _ _ from ⟨us, how.out⟩).wide hs2 (Nat.le_refl _), hw2.trans (hbe.mono hs2)⟩
end WC
end Go.Proofs.Ytcnoaclijhcckaa
