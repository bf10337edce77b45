/-
  WALKS, CHAPTER 4: the sequence of a branch.
-/
import Derived.Test.YtcnoaclijhcckaaWlkD1
namespace Go.Proofs.Ytcnoaclijhcckaa
open Go.RowKit
set_option linter.unusedVariables false
namespace WD
open K Pl WA WC
/-- The term before, nought at the first. -/
def lst (xs : List Int) (q : Nat) : Int := if q ≤ 1 then 0 else gx xs (q - 1)
theorem lst_succ (xs : List Int) (q : Nat) (h : 1 ≤ q) : lst xs (q + 1) = gx xs q := by unfold lst; rw [if_neg (by omega)]; rfl
theorem kk_lst {xs : List Int} (h : isBr xs = true) (i : Nat) (h1 : 1 ≤ i) (h2 : i < xs.length) : gx xs i - lst xs i = ((kk xs i : Nat) : Int) := (kk_bd h i h1 h2).2.2.2.2.1.symm
theorem sqn_le {xs : List Int} (h : isBr xs = true) (m : Nat) (hm : m < xs.length) : (sqn xs m).length ≤ 1000000 := by
  have := sqn_len h m hm
  have := isBr_len_le h
  omega
set_option maxHeartbeats 3200000 in
theorem sequence_any (B : Nat) (v : Value) (xs : List Int) (w : World) (h : Is w B v xs) (hB : B ≤ w.heap.size) (hR : isBr xs = true) :
    Calls Try.prog 35 #[.agg #[v]] w fun e w' => ∃ v', e = .returned v' ∧ Ow w' w.heap.size w'.heap.size v' (seqB xs) ∧ Below w.heap.size w w' := by
  have Hh := Lib.hid h
  have Hg := Lib.hid (isBr_rg hR)
  have H7 := isBr_len_le hR
  have Hl := Lib.hid (show xs.length ≤ 1000000000 by omega)
  have Hrg := Lib.hid (isBr_range hR)
  have Hkk := Lib.hid (kk_bd hR)
  have Hkl := Lib.hid (kk_lst hR)
  have Hsl := Lib.hid (sqn_le hR)
  have H1 := (isBr_true.1 hR).1
  have Hp := Lib.hid H1
  have hb1 : ∀ o, Below w.heap.size w (w.alloc o) := fun o => (Below.refl _ _).alloc (Nat.le_refl _) o
  obtain ⟨A, n, c, rfl, hnc, hcm, hrd⟩ := h
  have Hn := Lib.hid hrd.len
  rw [Hn.out] at H7 H1
  obtain ⟨ad, rfl, hab, hc⟩ := hrd.pos H1
  have Hc := Lib.hid hc
  unfold maxLen at hcm
  clear hrd hR hc
  by_cases hone : n = 1
  · have hz : ((n : Int) - 1 == 0) = true := by simp; omega
    have Hr := Lib.hid (show seqB xs = [1] by unfold seqB; rw [if_pos (by rw [Hn.out]; exact hone)])
    clear hone
    go_enter Try.func35, Try.ntmps35
    go_wp2_with fail
    refine (pairsOf_any B _ xs _ (Hh.out.below ((hb1 _).mono hB)) Hp.out).mono ?_
    rintro e w1 ⟨rfl, hb⟩
    rw [Hn.out]
    have hw1 := (hb1 _).trans (hb.mono (by simp))
    have hs1 := hw1.size
    clear hb
    go_wp2_with fail
    go_ret
    refine ⟨_, rfl, ?_, hw1.alloc hs1 _⟩
    rw [Hr.out]
    exact Ow.of_own (World.ownsRow_lit (base := w.heap.size) (e := 2) (size := 1) w1 #[.int .i64 1] 1 hs1 (by decide) rfl)
  · have hz : ((n : Int) - 1 == 0) = false := by simp; omega
    have Hr := Lib.hid (show seqB xs = sqn xs (n - 1) by unfold seqB; rw [if_neg (by rw [Hn.out]; exact hone), Hn.out])
    clear hone
    go_enter Try.func35, Try.ntmps35
    go_wp2_with fail
    refine (pairsOf_any B _ xs _ (Hh.out.below ((hb1 _).mono hB)) Hp.out).mono ?_
    rintro e w1 ⟨rfl, hb⟩
    rw [Hn.out]
    have hw1 := (hb1 _).trans (hb.mono (by simp))
    have hcb1 : w1.cell? ⟨w.heap.size, 0, none⟩ = some (.slice (some ad) n c) := (hb.cell (p := ⟨w.heap.size, 0, none⟩) (by simp)).trans (by simp [go_sem])
    have hs1 := hw1.size
    clear hb hb1
    go_wp2_with fail
    refine (divisors_any B _ xs _ (Hh.out.below (hw1.mono hB)) (by omega) Hl.out Hg).mono ?_
    rintro e w2 ⟨v2, rfl, ow2, hb2⟩
    have hcb : w2.cell? ⟨w.heap.size, 0, none⟩ = some (.slice (some ad) n c) := (hb2.cell (p := ⟨w.heap.size, 0, none⟩) (World.block_lt_of_cell? w1 ⟨w.heap.size, 0, none⟩ hcb1)).trans hcb1
    have hbl : w.heap.size < w2.heap.size := World.block_lt_of_cell? w2 ⟨w.heap.size, 0, none⟩ hcb
    have hw2 := hw1.trans (hb2.mono hs1)
    have hs2 := hw2.size
    obtain ⟨A1, n1, c1, rfl, hnc1, hcm1, hrd1⟩ := ow2.is
    obtain rfl : n1 = n := by have := hrd1.len; rw [divs_len, Hn.out] at this; omega
    obtain ⟨ad1, rfl, hab1, hc1⟩ := hrd1.pos H1
    have Hc1 := Lib.hid (show ∀ j, j < n1 → w2.cell? (ad1.add j) = some (.int .i64 (dg xs (j + 1))) from fun j hj => by rw [hc1 j hj, gx_divs _ _ (by rw [Hn.out]; exact hj)])
    have hown0 := World.ownsRow_lit (base := w2.heap.size) (e := 2) (size := 1) w2 #[] 0 (Nat.le_refl _) (by decide) rfl
    have hbe0 : ∀ o, Below w2.heap.size w2 (w2.alloc o) := fun o => (Below.refl _ _).alloc (Nat.le_refl _) o
    unfold maxLen at hcm1
    clear hb2 ow2 hrd1 hc1 hcb1
    go_wp2
    go_loopw [4, 5, 6] (fun u l i wr => ∃ (q m r : Nat) (A6 : Option Addr) (c6 : Nat), 1 ≤ q ∧ q ≤ n1 ∧ m ≤ q ∧ Hid (q = m + 1) ∧ i = .int .i64 (q : Int) ∧ l = .int .i64 (lst xs q) ∧ u = .slice A6 r c6 ∧ r ≤ c6 ∧ c6 ≤ 9223372036854775807 ∧ Hid (r = (sqn xs m).length) ∧ Hid (wr.ownsRow w2.heap.size 2 1 (.slice A6 r c6) r ((sqn xs m).map (Value.int .i64))) ∧ Below w2.heap.size w2 wr) (fun _ _ i _ => n1 - (intOf i).toNat)
    case atStart => exact ⟨1, 0, 0, _, 0, by omega, H1, by omega, Lib.hid rfl, rfl, rfl, rfl, by omega, by omega, Lib.hid rfl, Lib.hid hown0, hbe0 _⟩
    case round =>
      clear hown0 hbe0
      obtain ⟨q, m, r, A6, c6, hq1, hqn, hmq, hqm, rfl, rfl, rfl, hrc, hc6, hr, hown, hbe⟩ := hrel
      have hs := hbe.size
      by_cases hlt : q < n1
      · have hcb2 : wr.cell? ⟨w.heap.size, 0, none⟩ = some (.slice (some ad) n1 c) := (hbe.cell (p := ⟨w.heap.size, 0, none⟩) hbl).trans hcb
        have hcx : wr.cell? (ad.add q) = some (.int .i64 (gx xs q)) := (hbe.cell (by rw [block_of_add]; omega)).trans ((hw2.cell (by rw [block_of_add]; omega)).trans (Hc.out q hlt))
        have hkk := Hkk.out q hq1 (by rw [Hn.out]; exact hlt)
        have hce : wr.cell? (ad1.add (q - 1)) = some (.int .i64 ((ee xs q : Nat) : Int)) := by
          have e := (hbe.cell (p := ad1.add (q - 1)) (by rw [block_of_add]; exact hab1)).trans (Hc1.out (q - 1) (by omega))
          rw [hkk.2.2.2.2.2]
          rwa [show q - 1 + 1 = q by omega] at e
        have hi1 : 0 ≤ (q : Int) ∧ (q : Int) < (n1 : Int) := by omega
        have hi3 : 0 ≤ (q : Int) - 1 ∧ (q : Int) - 1 < (n1 : Int) := by omega
        have hi4 : (1 : Int) ≤ (q : Int) := by omega
        have hwk : IntKind.i64.wrap ((q : Int) - 1) = (q : Int) - 1 := IntWalk.i64_in _ (by omega)
        have hkl := Hkl.out q hq1 (by rw [Hn.out]; exact hlt)
        have hwd : IntKind.i64.wrap (gx xs q - lst xs q) = ((kk xs q : Nat) : Int) := by rw [hkl]; exact IntWalk.i64_in _ (by omega)
        have Hb := Lib.hid hkk
        have hsl := Hsl.out m (by rw [Hn.out]; have := hqm.out; omega)
        have hr9 : r ≤ 1000000 := by rw [hr.out]; exact hsl
        have Hsn := Lib.hid (show sqn xs (m + 1) = sqn xs m ++ reps (steps (kk xs q) (ee xs q)) by rw [sqn_succ, hqm.out])
        have S0 : wr.cell? ⟨w.heap.size, 0, none⟩ = some (.slice (some ad) n1 c) ∧ wr.cell? (ad.add q) = some (.int .i64 (gx xs q)) ∧ wr.cell? (ad1.add (q - 1)) = some (.int .i64 ((ee xs q : Nat) : Int)) := ⟨hcb2, hcx, hce⟩
        clear hkk hkl hsl
        go_wp2_with fail
        go_region_held3 (fun W => W.cell? ⟨w.heap.size, 0, none⟩ = some (.slice (some ad) n1 c) ∧ W.cell? (ad.add q) = some (.int .i64 (gx xs q)) ∧ W.cell? (ad1.add (q - 1)) = some (.int .i64 ((ee xs q : Nat) : Int))) (first | exact S0 | exact S3)
          (first | (go_at_call 57; refine (runOf_any w2.heap.size A6 r c6 (sqn xs m) (kk xs q) (ee xs q) _ (by exact hown.out) (by exact hs) (by have := Hb.out; omega) (by have := Hb.out; omega) (by omega) (by have := Hb.out; exact Nat.le_trans (Nat.mul_le_mul this.2.1 this.2.2.2.1) (by decide))).mono ?_; rintro e w3 ⟨A', n', c', rfl, hn', hown3, hb3⟩; have S3 := (show w3.cell? ⟨w.heap.size, 0, none⟩ = some (.slice (some ad) n1 c) ∧ w3.cell? (ad.add q) = some (.int .i64 (gx xs q)) ∧ w3.cell? (ad1.add (q - 1)) = some (.int .i64 ((ee xs q : Nat) : Int)) from ⟨(hb3.cell (p := ⟨w.heap.size, 0, none⟩) hbl).trans S0.1, (hb3.cell (p := ad.add q) (by rw [block_of_add]; omega)).trans S0.2.1, (hb3.cell (p := ad1.add (q - 1)) (by rw [block_of_add]; exact hab1)).trans S0.2.2⟩)))
        have hcb3 := S3.1
        have hcx3 := S3.2.1
        have hbe3 : Below w2.heap.size w2 w3 := hbe.trans (b := wr) ⟨hb3.os, hb3.tape, hb3.output, hb3.size, hb3.block⟩
        have Hn' := Lib.hid (show n' = (sqn xs (m + 1)).length by rw [Hsn.out]; exact hn'.out)
        have Hown3 := Lib.hid (show w3.ownsRow w2.heap.size 2 1 (.slice A' n' c') n' ((sqn xs (m + 1)).map (Value.int .i64)) by rw [Hsn.out]; exact hown3)
        obtain ⟨hnc3, hcm3⟩ : n' ≤ c' ∧ c' ≤ 9223372036854775807 := by
          obtain ⟨A9, c9, e, h1, h2⟩ := own_shape hown3
          cases e; exact ⟨h1, h2⟩
        clear hn' hown3 hb3 S0 S3 hbe hown hwd hwk hr
        go_wp2
        go_roundw
        case rel => exact ⟨q + 1, m + 1, n', A', c', by omega, by omega, by omega, Lib.hid (by rw [hqm.out]), by go_num, by rw [lst_succ xs q hq1], rfl, hnc3, hcm3, Hn', Hown3, hbe3⟩
        case measure => first | (simp [intOf]; done) | (simp [intOf]; omega)
      · obtain rfl : q = n1 := by omega
        have Hm := Lib.hid (show q - 1 = m by have := hqm.out; omega)
        go_wp2
        go_ret
        refine ⟨_, rfl, ?_, hw2.trans (hbe.mono hs2)⟩
        rw [Hr.out, Hm.out]
        exact (Ow.of_own hown.out).wide hs2 (Nat.le_refl _)
end WD
end Go.Proofs.Ytcnoaclijhcckaa
