/-
  WALKS, CHAPTER 3: pairs.
-/
import Derived.Test.YtmkfbcabpkendaaWlkC6
import Derived.Test.YtmkfbcabpkendaaWlkR2
import Derived.Test.YtmkfbcabpkendaaKitT
import Derived.Test.YtmkfbcabpkendaaPlH
namespace Go.Proofs.Ytmkfbcabpkendaa
open Go.RowKit
set_option linter.unusedVariables false
namespace WC
open K Pl WA WL
theorem div_eq64 {a b : Int} (ha : 0 ≤ a) (hb : 1 ≤ b) (ha' : a ≤ 9000000000000000000) : IntKind.i64.wrap (a.tdiv b) = a / b ∧ 0 ≤ a / b ∧ a / b ≤ a := by
  rw [Int.tdiv_eq_ediv_of_nonneg ha]
  have h1 : 0 ≤ a / b := Int.ediv_nonneg ha (by omega)
  have h2 : a / b ≤ a := Int.ediv_le_self _ ha
  exact ⟨IntWalk.i64_in _ (by omega), h1, h2⟩
set_option maxHeartbeats 1600000 in
theorem ratios_any (B : Nat) (v : Value) (xs : List Int) (w : World) (h : Is w B v xs) (hB : B ≤ w.heap.size) (hR : isBr xs = true) :
    Calls Try.prog 48 #[.agg #[v]] w fun e w' => ∃ v', e = .returned v' ∧ Ow w' w.heap.size w'.heap.size v' (ratL xs xs.length) ∧ Below w.heap.size w w' := by
  have Hh := Lib.hid h
  have Hg := Lib.hid (isBr_rg hR)
  have H7 := isBr_len_le hR
  have Hl := Lib.hid (show xs.length ≤ 1000000000 by omega)
  have Hdg := Lib.hid (isBr_dg hR)
  have H1 := (isBr_true.1 hR).1
  have hb1 : ∀ o, Below w.heap.size w (w.alloc o) := fun o => (Below.refl _ _).alloc (Nat.le_refl _) o
  obtain ⟨n, Hn⟩ : ∃ n, Hid (xs.length = n) := ⟨_, Lib.hid rfl⟩
  rw [Hn.out] at H7 H1 ⊢
  obtain ⟨A, n0, c, rfl, hnc, hcm, hrd⟩ := h
  clear hrd hR
  go_enter Try.func48, Try.ntmps48
  go_wp2_with fail
  refine (divisors_any B _ xs _ (Hh.out.below ((hb1 _).mono hB)) (by simp; omega) Hl.out Hg).mono ?_
  rintro e w1 ⟨v1, rfl, ow1, hb⟩
  obtain ⟨A1, n1, c1, rfl, hnc1, hcm1, hrd1⟩ := ow1.is
  obtain rfl : n1 = n := by have := hrd1.len; rw [divs_len, Hn.out] at this; omega
  obtain ⟨ad1, rfl, hab1, hc1⟩ := hrd1.pos (by omega)
  have Hc1 := Lib.hid (show ∀ j, j < n1 → w1.cell? (ad1.add j) = some (.int .i64 (dg xs (j + 1))) from fun j hj => by rw [hc1 j hj, gx_divs _ _ (by rw [Hn.out]; exact hj)])
  have hw1 := (hb1 _).trans (hb.mono (by simp))
  have hs1 := hw1.size
  have hown0 := World.ownsRow_lit (base := w1.heap.size) (e := 2) (size := 1) w1 #[.int .i64 0] 1 (Nat.le_refl _) (by decide) rfl
  have hbe0 : ∀ o, Below w1.heap.size w1 (w1.alloc o) := fun o => (Below.refl _ _).alloc (Nat.le_refl _) o
  unfold maxLen at hcm1
  clear hb ow1 hrd1 hc1 hb1
  go_wp2
  go_loopw [4, 5] (fun u i wr => ∃ (k : Nat) (A6 : Option Addr) (c6 : Nat), 1 ≤ k ∧ k ≤ n1 ∧ i = .int .i64 k ∧ u = .slice A6 k c6 ∧ Hid (wr.ownsRow w1.heap.size 2 1 (.slice A6 k c6) k ((ratL xs k).map (Value.int .i64))) ∧ Below w1.heap.size w1 wr) (fun _ i _ => n1 - (intOf i).toNat)
  case atStart => exact ⟨1, _, 1, by omega, H1, rfl, rfl, Lib.hid hown0, hbe0 _⟩
  case round =>
    clear hown0 hbe0
    obtain ⟨k, A6, c6, hk1, hk, rfl, rfl, hown, hbe⟩ := hrel
    have hs := hbe.size
    by_cases hlt : k < n1
    · have hc2 : wr.cell? (ad1.add k) = some (.int .i64 (dg xs (k + 1))) := (hbe.cell (by rw [block_of_add]; omega)).trans (Hc1.out k hlt)
      have hc3 : wr.cell? (ad1.add (k - 1)) = some (.int .i64 (dg xs k)) := by
        have e := (hbe.cell (p := ad1.add (k - 1)) (by rw [block_of_add]; omega)).trans (Hc1.out (k - 1) (by omega))
        rwa [show k - 1 + 1 = k by omega] at e
      have hi1 : 0 ≤ (k : Int) ∧ (k : Int) < (n1 : Int) := by omega
      have hi2 : 0 ≤ (k : Int) - 1 ∧ (k : Int) - 1 < (n1 : Int) := by omega
      have hi3 : (1 : Int) ≤ (k : Int) := by omega
      have hwk : IntKind.i64.wrap ((k : Int) - 1) = (k : Int) - 1 := IntWalk.i64_in _ (by omega)
      have hd1 := Hdg.out (k + 1) (by omega)
      have hd2 := Hdg.out k hk1
      have hd0 : ¬ dg xs (k + 1) = 0 := by omega
      have hq := (div_eq64 (a := dg xs k) (b := dg xs (k + 1)) (by omega) hd1.1 (by omega)).1
      have Hsn := Lib.hid (ratL_snoc xs k hk1)
      have S0 : wr.cell? (ad1.add k) = some (.int .i64 (dg xs (k + 1))) ∧ wr.cell? (ad1.add (k - 1)) = some (.int .i64 (dg xs k)) := ⟨hc2, hc3⟩
      have S1 : ∀ o, (wr.alloc o).cell? (ad1.add k) = some (.int .i64 (dg xs (k + 1))) ∧ (wr.alloc o).cell? (ad1.add (k - 1)) = some (.int .i64 (dg xs k)) := fun o => ⟨cell_alloc hc2 o, cell_alloc hc3 o⟩
      go_wp2_with fail
      go_region_held3 (fun W => W.cell? (ad1.add k) = some (.int .i64 (dg xs (k + 1))) ∧ W.cell? (ad1.add (k - 1)) = some (.int .i64 (dg xs k))) (first | exact S0 | exact S1 _ | exact S3)
        (first | (refine step_append_i (by rfl) _ _ (by rfl) w1.heap.size (.slice A6 k c6) k (ratL xs k) (by simp [Act.eval]) (hown.out.alloc _) wr.heap.size (dg xs k / dg xs (k + 1)) 1 (by simp [Act.eval]) (by simp [go_sem]) (by omega) (by simp; omega) ?_; intro g' cap' w2 hown2 hgrow hat hlt2; have S3 := And.intro (low_cell (lo := w1.heap.size) hgrow (fun k' e => (hown.out.lt k' e).1) (by rw [block_of_add]; exact hab1) (S1 _).1) (low_cell (lo := w1.heap.size) hgrow (fun k' e => (hown.out.lt k' e).1) (by rw [block_of_add]; exact hab1) (S1 _).2)))
      have Hown2 := Lib.hid (show w2.ownsRow w1.heap.size 2 1 (.slice (some ⟨g', 0, none⟩) (k + 1) cap') (k + 1) ((ratL xs (k + 1)).map (Value.int .i64)) by rw [Hsn.out]; exact hown2)
      have hbe2 : Below w1.heap.size w1 w2 := (hbe.alloc hs _).grown (row := (Value.slice A6 k c6).ownBlock) ⟨hgrow.os, hgrow.tape, hgrow.output, hgrow.size, hgrow.block⟩ (by simp; omega) (fun k' e => (hown.out.lt k' e).1)
      clear hown hown2 hgrow hat hbe S0 S1 S3 hwk hq
      go_wp2_with fail
      go_roundw
      case rel => exact ⟨k + 1, _, _, by omega, by omega, by go_num, rfl, Hown2, hbe2⟩
      case measure => first | (simp [intOf]; done) | (simp [intOf]; omega)
    · obtain rfl : k = n1 := by omega
      go_wp2
      go_ret
      have Ho := (Ow.of_own hown.out)
      exact ⟨_, rfl, Ho.wide hs1 (Nat.le_refl _), hw1.trans (hbe.mono hs1)⟩
end WC
end Go.Proofs.Ytmkfbcabpkendaa
