/-
  WALKS, CHAPTER 4: the reference's runs, and sums over them.
-/
import Derived.Test.YtcnoaclijhcckaaWlkD2
namespace Go.Proofs.Ytcnoaclijhcckaa
open Go.RowKit
set_option linter.unusedVariables false
namespace WD
open K Pl WA WC
/-- A row of two numbers among the call's own rows. -/
theorem own_pair {w : World} {lo hi n c1 k : Nat} {A : Option Addr} {us : List Value} {S : List (List Int)} {q r : Int} (h : OwU w lo hi (.slice A n c1) us S) (hn : S.length = n) (hk : k < n) (he : gxx S k = [q, r]) :
    ∃ g0 g c, A = some ⟨g0, 0, none⟩ ∧ w.cell? ⟨g0, k, none⟩ = some (.slice (some ⟨g, 0, none⟩) 2 c) ∧ 2 ≤ c ∧ c ≤ 9223372036854775807 ∧ w.cell? ⟨g, 0, none⟩ = some (.int .i64 q) ∧ w.cell? ⟨g, 1, none⟩ = some (.int .i64 r) ∧ lo ≤ g ∧ g < hi ∧ g0 ≠ g := by
  subst hn
  obtain ⟨g0, c0, e0⟩ := Go.Joins.ownsRow_form h.row (by omega)
  cases e0
  have hek := h.each k hk
  rw [he] at hek
  obtain ⟨g, c, eu⟩ := Go.Joins.ownsRow_form hek.1 (by simp)
  have hoff := h.off k g0 hk rfl
  have hk2 := hek.1
  rw [eu] at hk2 hoff
  have hl := hek.low (k := g) (by rw [eu]; rfl)
  obtain ⟨A', c', e, h1, h2⟩ := own_shape hk2
  cases e
  refine ⟨g0, g, c, rfl, ?_, h1, h2, by have := hk2.cellAt 0 (by simp); simpa using this, by have := hk2.cellAt 1 (by simp); simpa using this, hl.1, hl.2.1, fun e => hoff (by simp [Value.ownBlock, e])⟩
  have := h.row.cellAt k (by omega)
  rw [this, ux_get? us k (by have := h.len; omega), eu]; rfl
theorem rws_len {xs : List Int} (h : isBr xs = true) : ∀ i, i < xs.length → (rws xs i).length ≤ 64 * i
  | 0, _ => by simp [rws_zero]
  | i + 1, hi => by
    have := rws_len h i (by omega)
    have b := kk_bd h (i + 1) (by omega) hi
    have l := steps_len (ee xs (i + 1)) (kk xs (i + 1)) (ee xs (i + 1)) (Nat.le_refl _)
    rw [rws_succ, List.length_append]; omega
theorem take_succ_gxx (S : List (List Int)) (k : Nat) (h : k < S.length) : S.take (k + 1) = S.take k ++ [gxx S k] := by
  rw [List.take_succ_eq_append_getElem h, gxx_eq S k h]
/-- Rows {q, r} of a branch's runs. -/
def RowsOk (S : List (List Int)) : Prop := ∀ s ∈ S, ∃ q r : Int, s = [q, r] ∧ 0 ≤ q ∧ q ≤ 2000 ∧ 1 ≤ r ∧ r ≤ 64
theorem sumR_bd {f : Int → Int} {M : Int} (hM : ∀ r, 1 ≤ r → r ≤ 64 → 0 ≤ f r ∧ f r ≤ M) {S : List (List Int)} (h : RowsOk S) : ∀ k, k ≤ S.length → 0 ≤ sumR f (S.take k) ∧ sumR f (S.take k) ≤ k * (2000 * M)
  | 0, _ => by simp [sumR]
  | k + 1, hk => by
    have i := sumR_bd hM h k (by omega)
    obtain ⟨q, r, e, h0, h1, h2, h3⟩ := h (gxx S k) (gxx_mem S k (by omega))
    have hf := hM r h2 h3
    rw [take_succ_gxx S k (by omega), sumR_snoc, e]
    have e0 : gx [q, r] 0 = q := rfl
    have e1 : gx [q, r] 1 = r := rfl
    rw [e0, e1]
    have a : 0 ≤ q * f r := Int.mul_nonneg h0 hf.1
    have b : q * f r ≤ 2000 * M := Int.mul_le_mul h1 hf.2 hf.1 (by omega)
    rw [Int.natCast_add, Int.add_mul]; omega
set_option maxHeartbeats 3200000 in
theorem l04Runs_any (B : Nat) (v : Value) (xs : List Int) (w : World) (h : Is w B v xs) (hB : B ≤ w.heap.size) (hR : isBr xs = true) :
    Calls Try.prog 38 #[.agg #[v]] w fun e w' => ∃ v', e = .returned v' ∧ OwR w' w.heap.size w'.heap.size v' (rws xs (xs.length - 1)) ∧ Below w.heap.size w w' := by
  have Hh := Lib.hid h
  have Hg := Lib.hid (isBr_rg hR)
  have H7 := isBr_len_le hR
  have Hl := Lib.hid (show xs.length ≤ 1000000000 by omega)
  have Hrg := Lib.hid (isBr_range hR)
  have Hkk := Lib.hid (kk_bd hR)
  have Hrl := Lib.hid (rws_len hR)
  have H1 := (isBr_true.1 hR).1
  have Hp := Lib.hid H1
  have hb1 : ∀ o, Below w.heap.size w (w.alloc o) := fun o => (Below.refl _ _).alloc (Nat.le_refl _) o
  obtain ⟨A, n, c, rfl, hnc, hcm, hrd⟩ := h
  have Hn := Lib.hid hrd.len
  rw [Hn.out] at H7 H1
  obtain ⟨ad, rfl, hab, hc⟩ := hrd.pos H1
  have Hc := Lib.hid hc
  unfold maxLen at hcm
  clear hrd hR hc
  go_enter Try.func38, Try.ntmps38
  go_wp2_with fail
  refine (l03Divisors_any B _ xs _ (Hh.out.below ((hb1 _).mono hB)) (by simp; omega) Hp.out Hl.out Hg).mono ?_
  rintro e w2 ⟨v1, rfl, ow1, hbx⟩
  have hw2 := (hb1 _).trans (hbx.mono (by simp))
  have hcb : w2.cell? ⟨w.heap.size, 0, none⟩ = some (.slice (some ad) n c) := (hbx.cell (p := ⟨w.heap.size, 0, none⟩) (by simp)).trans (by simp [go_sem])
  have hbl : w.heap.size < w2.heap.size := World.block_lt_of_cell? w2 ⟨w.heap.size, 0, none⟩ hcb
  have hs2 := hw2.size
  obtain ⟨A1, n2, c1, rfl, hnc1, hcm1, hrd1⟩ := ow1.is
  obtain rfl : n2 = n := by have := hrd1.len; rw [divs_len, Hn.out] at this; omega
  obtain ⟨ad1, rfl, hab1, hc1⟩ := hrd1.pos H1
  have Hc1 := Lib.hid (show ∀ j, j < n2 → w2.cell? (ad1.add j) = some (.int .i64 (dg xs (j + 1))) from fun j hj => by rw [hc1 j hj, gx_divs _ _ (by rw [Hn.out]; exact hj)])
  have h0 := OwU.lit w2 (lo := w2.heap.size) (Nat.le_refl _)
  have hbe0 : ∀ o, Below w2.heap.size w2 (w2.alloc o) := fun o => (Below.refl _ _).alloc (Nat.le_refl _) o
  have h00 := Lib.hid (show OwU (w2.alloc (.cells #[] 24)) w2.heap.size (w2.alloc (.cells #[] 24)).heap.size (.slice (some ⟨w2.heap.size, 0, none⟩) 0 0) [] (rws xs 0) by simpa [rws] using h0)
  unfold maxLen at hcm1
  clear h0 hb1 hbx ow1 hrd1 hc1
  go_wp2
  go_loopw [4, 5, 6] (fun u i _c wr => ∃ (q m r : Nat) (us : List Value) (A6 : Option Addr) (c6 : Nat), 1 ≤ q ∧ q ≤ n2 ∧ m ≤ q ∧ Hid (q = m + 1) ∧ i = .int .i64 (q : Int) ∧ u = .slice A6 r c6 ∧ Hid ((rws xs m).length = r) ∧ Hid (OwU wr w2.heap.size wr.heap.size (.slice A6 r c6) us (rws xs m)) ∧ Below w2.heap.size w2 wr) (fun _ i _c _ => n2 - (intOf i).toNat)
  case atStart => exact ⟨1, 0, 0, [], _, 0, by omega, H1, by omega, Lib.hid rfl, rfl, rfl, Lib.hid rfl, h00, hbe0 _⟩
  case round =>
    clear h00 hbe0
    obtain ⟨q, m, r, us, A6, c6, hq1, hqn, hmq, hqm, rfl, rfl, hr, how, hbe⟩ := hrel
    have hs := hbe.size
    have hrow : wr.ownsRow w2.heap.size 24 1 (.slice A6 r c6) r us := by have h := how.out.row; rw [hr.out] at h; exact h
    by_cases hlt : q < n2
    · have hcb2 : wr.cell? ⟨w.heap.size, 0, none⟩ = some (.slice (some ad) n2 c) := (hbe.cell (p := ⟨w.heap.size, 0, none⟩) hbl).trans hcb
      have hcx : wr.cell? (ad.add q) = some (.int .i64 (gx xs q)) := (hbe.cell (by rw [block_of_add]; omega)).trans ((hw2.cell (by rw [block_of_add]; omega)).trans (Hc.out q hlt))
      have hkk := Hkk.out q hq1 (by rw [Hn.out]; exact hlt)
      have hce : wr.cell? (ad1.add (q - 1)) = some (.int .i64 ((ee xs q : Nat) : Int)) := by
        have e := (hbe.cell (p := ad1.add (q - 1)) (by rw [block_of_add]; exact hab1)).trans (Hc1.out (q - 1) (by omega))
        rw [hkk.2.2.2.2.2]
        rwa [show q - 1 + 1 = q by omega] at e
      have hi1 : 0 ≤ (q : Int) ∧ (q : Int) < (n2 : Int) := by omega
      have hi3 : 0 ≤ (q : Int) - 1 ∧ (q : Int) - 1 < (n2 : Int) := by omega
      have hgx := Hrg.out q (by rw [Hn.out]; exact hlt)
      have hr9 : r ≤ 1000 := by have := Hrl.out m (by rw [Hn.out]; have := hqm.out; omega); rw [hr.out] at this; omega
      have hkb : kk xs q ≤ 1000000000 := by omega
      have heb : ee xs q ≤ 1000000000 := by omega
      have Hs1 := Lib.hid (show 0 < (steps (kk xs q) (ee xs q)).length by rw [steps_pos _ _ (by omega)]; simp)
      have Hs2 := Lib.hid (show (steps (kk xs q) (ee xs q)).length ≤ 64 by have := steps_len (ee xs q) (kk xs q) (ee xs q) (Nat.le_refl _); omega)
      have Hsn := Lib.hid (show rws xs (m + 1) = rws xs m ++ steps (kk xs q) (ee xs q) by rw [rws_succ, hqm.out])
      have Hke := hkk.2.2.2.2.1
      clear hkk
      by_cases hm1 : (1 : Int) < (q : Int)
      all_goals
        first
          | have Hke2 := Lib.hid (show gx xs q - gx xs (q - 1) = ((kk xs q : Nat) : Int) by rw [Hke, if_neg (by omega)])
            have hcx2 : wr.cell? (ad.add (q - 1)) = some (.int .i64 (gx xs (q - 1))) := (hbe.cell (by rw [block_of_add]; omega)).trans ((hw2.cell (by rw [block_of_add]; omega)).trans (Hc.out (q - 1) (by omega)))
            have hgx2 := Hrg.out (q - 1) (by rw [Hn.out]; omega)
          | have Hke2 := Lib.hid (show gx xs q = ((kk xs q : Nat) : Int) by rw [Hke, if_pos (by omega)]; omega)
        clear Hke
        go_wp2_with fail
        rw [Hke2.out]
        refine (l01Steps_any (kk xs q) (ee xs q) _ hkb heb).mono ?_
        rintro e w3 ⟨v3, rfl, ⟨us3, hU3⟩, hb3⟩
        have hs3 := hb3.size
        have hl3 := hU3.len
        obtain ⟨g3, c3, rfl⟩ := Go.Joins.ownsRow_form hU3.row Hs1.out
        obtain ⟨m3, Hm3⟩ : ∃ m3, Hid ((steps (kk xs q) (ee xs q)).length = m3) := ⟨_, Lib.hid rfl⟩
        have HU3 := Lib.hid hU3
        have Hl3 := Lib.hid (show us3.length = m3 by rw [hl3, Hm3.out])
        have hm3 : m3 ≤ 64 := by rw [← Hm3.out]; exact Hs2.out
        have hm30 : 0 < m3 := by rw [← Hm3.out]; exact Hs1.out
        rw [Hm3.out] at HU3 ⊢
        have Hb3 := Lib.hid hb3
        clear hU3 hl3 hb3
        have hrow3 := own_later hrow Hb3.out
        have Hcells := Lib.hid (show ∀ j, j < m3 → w3.cell? ((⟨g3, 0, none⟩ : Addr).add j) = some (ux us3 j) from fun j hj => by
          obtain ⟨A9, c9, e9, _, _, hp9⟩ := HU3.out.is.sh
          rw [Hm3.out] at e9 hp9
          cases e9
          obtain ⟨ad9, e10, _, hc9⟩ := hp9 hm30
          cases e10
          exact hc9 j hj)
        go_wp2_with (at_builtin; refine wp_append_rows rfl _ _ rfl w2.heap.size _ r us rfl hrow3 ⟨g3, 0, none⟩ m3 c3 us3 (steps (kk xs q) (ee xs q)) rfl Hl3.out Hcells.out HU3.out.oneCells (by omega) (by omega) ?_)
        intro v4 w4 hown4 hgrow hat
        have hbe4 : Below w2.heap.size w2 w4 := (hbe.trans (Hb3.out.mono hs)).grown hgrow (by omega) (fun k' e => (hrow.lt k' e).1)
        have hown5 : w4.ownsRow w2.heap.size 24 1 v4 ((rws xs m).length + (steps (kk xs q) (ee xs q)).length) (us ++ us3) := by rw [hr.out, Hm3.out]; exact hown4
        have hUU := OwU.many how.out (Nat.le_refl _) hs Hb3.out HU3.out hown5 hgrow hat
        rw [← Hsn.out] at hUU
        obtain ⟨A4, c4, rfl, _, _⟩ := own_shape hown4
        have HUU := Lib.hid hUU
        have Hrr := Lib.hid (show (rws xs (m + 1)).length = r + m3 by rw [Hsn.out, List.length_append, hr.out, Hm3.out])
        clear hown4 hown5 hgrow hat hUU hrow hrow3 how hbe Hcells HU3 Hb3 Hl3
        go_wp2
        go_roundw
        case rel => exact ⟨q + 1, m + 1, r + m3, _, _, _, by omega, by omega, by omega, Lib.hid (by rw [hqm.out]), by go_num, rfl, Hrr, HUU, hbe4⟩
        case measure => first | (simp [intOf]; done) | (simp [intOf]; omega)
    · obtain rfl : q = n2 := by omega
      have Hm := Lib.hid (show xs.length - 1 = m by rw [Hn.out]; have := hqm.out; omega)
      go_wp2
      go_ret
      exact ⟨_, rfl, by rw [Hm.out]; exact (show OwR wr w2.heap.size wr.heap.size _ _ from ⟨us, how.out⟩).wide hs2 (Nat.le_refl _), hw2.trans (hbe.mono hs2)⟩
end WD
end Go.Proofs.Ytcnoaclijhcckaa
