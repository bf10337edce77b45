/-
  WALKS, CHAPTER 4: numbers of points, delta invariants, blow-ups.
-/
import Derived.Test.YtcnoaclijhcckaaWlkD3
namespace Go.Proofs.Ytcnoaclijhcckaa
open Go.RowKit
set_option linter.unusedVariables false
namespace WD
open K Pl WA WC
theorem rowsOk {xs : List Int} (h : isBr xs = true) : RowsOk (rws xs (xs.length - 1)) := rws_bd h _ (by have := (isBr_true.1 h).1; omega)
theorem rows_few {xs : List Int} (h : isBr xs = true) : (rws xs (xs.length - 1)).length ≤ 384 := by
  have := rws_len h (xs.length - 1) (by have := (isBr_true.1 h).1; omega)
  have := isBr_len_le h
  omega
theorem cnt_take (S : List (List Int)) (k : Nat) (h : k < S.length) {q r : Int} (e : gxx S k = [q, r]) : cntR (S.take (k + 1)) = cntR (S.take k) + q := by
  rw [take_succ_gxx S k h, cntR_snoc, e]; rfl
theorem cnt_bd {S : List (List Int)} (h : RowsOk S) : ∀ k, k ≤ S.length → 0 ≤ cntR (S.take k) ∧ cntR (S.take k) ≤ k * 2000
  | 0, _ => by simp [cntR]
  | k + 1, hk => by
    have i := cnt_bd h k (by omega)
    obtain ⟨q, r, e, h0, h1, h2, h3⟩ := h (gxx S k) (gxx_mem S k (by omega))
    rw [cnt_take S k (by omega) e]; omega
theorem sumR_take (f : Int → Int) (S : List (List Int)) (k : Nat) (h : k < S.length) {q r : Int} (e : gxx S k = [q, r]) : sumR f (S.take (k + 1)) = sumR f (S.take k) + q * f r := by
  rw [take_succ_gxx S k h, sumR_snoc, e]; rfl
theorem max_one (c : Int) (ts : Array TypeId) (ty : TypeId) (W : World) : (Builtin.max_ ts ty #[.int .i64 c, .int .i64 1]).run Try.prog W = .ok (.int .i64 (max c 1)) W := by
  rw [run_max_int2, show (if (1 : Int) > c then 1 else c) = max c 1 by split <;> omega]
set_option maxHeartbeats 1600000 in
theorem l04Count_any (B : Nat) (v : Value) (xs : List Int) (w : World) (h : Is w B v xs) (hB : B ≤ w.heap.size) (hR : isBr xs = true) :
    Calls Try.prog 51 #[.agg #[v]] w fun e w' => e = .returned (.int .i64 ((seqB xs).length : Int)) ∧ Below w.heap.size w w' := by
  have Hh := Lib.hid h
  have HR := Lib.hid hR
  have hb1 : ∀ o, Below w.heap.size w (w.alloc o) := fun o => (Below.refl _ _).alloc (Nat.le_refl _) o
  have Hcs := Lib.hid (cnt_seq hR)
  have Hok := Lib.hid (rowsOk hR)
  have hfew := rows_few hR
  obtain ⟨S, HS⟩ : ∃ S, Hid (rws xs (xs.length - 1) = S) := ⟨_, Lib.hid rfl⟩
  rw [HS.out] at Hcs Hok hfew
  obtain ⟨n, Hn⟩ : ∃ n, Hid (S.length = n) := ⟨_, Lib.hid rfl⟩
  rw [Hn.out] at hfew
  obtain ⟨A, n0, c, rfl, hnc, hcm, hrd⟩ := h
  clear hrd hR
  go_enter Try.func51, Try.ntmps51
  go_wp2_with fail
  refine (l04Runs_any B _ xs _ (Hh.out.below ((hb1 _).mono hB)) (by simp; omega) HR.out).mono ?_
  rintro e w1 ⟨v1, rfl, ⟨us, hU⟩, hb⟩
  rw [HS.out] at hU
  have hw1 := (hb1 _).trans (hb.mono (by simp))
  have hs1 := hw1.size
  obtain ⟨A1, c1, rfl, hnc1, hcm1⟩ := own_shape hU.row
  rw [Hn.out] at hnc1 hU ⊢
  have HU := Lib.hid hU
  clear hU hb hb1
  go_wp2
  go_loop [4, 5] (fun u i => ∃ k : Nat, k ≤ n ∧ i = .int .i64 k ∧ u = .int .i64 (cntR (S.take k))) (fun _ i => n - (intOf i).toNat)
  case atStart => exact ⟨0, Nat.zero_le _, rfl, rfl⟩
  case round =>
    obtain ⟨k, hk, rfl, rfl⟩ := hrel
    have hcb := cnt_bd Hok.out k (by rw [Hn.out]; exact hk)
    by_cases hlt : k < n
    · obtain ⟨q, r, esr, hq0, hq1, hr0, hr1⟩ := Hok.out (gxx S k) (gxx_mem S k (by rw [Hn.out]; exact hlt))
      obtain ⟨g0, g, c2, rfl, hco, hc2, hc2m, hq, hr, _, _, _⟩ := own_pair HU.out Hn.out hlt esr
      have hi1 : 0 ≤ (k : Int) ∧ (k : Int) < (n : Int) := by omega
      have hi2 : (0 : Int) < 2 := by omega
      have Hsn := Lib.hid (cnt_take S k (by rw [Hn.out]; exact hlt) esr)
      clear esr
      go_wp2
      go_round
      case rel => exact ⟨k + 1, by omega, by go_num, by rw [Hsn.out]⟩
      case measure => first | (simp [intOf]; done) | (simp [intOf]; omega)
    · obtain rfl : k = n := by omega
      have He := Lib.hid (show S.take k = S from List.take_of_length_le (Nat.le_of_eq Hn.out))
      have hmx := max_one (cntR (S.take k))
      go_wp2
      go_ret
      exact ⟨ret_i (by rw [He.out]; exact Hcs.out), hw1⟩
theorem dlt_wraps {acc q r : Int} (hq : 0 ≤ q ∧ q ≤ 2000) (hr : 1 ≤ r ∧ r ≤ 64) (ha : 0 ≤ acc ∧ acc ≤ 10000000000) :
    IntKind.i64.wrap (r - 1) = r - 1 ∧ IntKind.i64.wrap (r * (r - 1)) = r * (r - 1) ∧ IntKind.i64.wrap ((r * (r - 1)).tdiv 2) = dlt r ∧ IntKind.i64.wrap (q * dlt r) = q * dlt r ∧ IntKind.i64.wrap (acc + q * dlt r) = acc + q * dlt r := by
  have a : 0 ≤ r * (r - 1) := Int.mul_nonneg (by omega) (by omega)
  have b : r * (r - 1) ≤ 64 * 63 := Int.mul_le_mul hr.2 (by omega) (by omega) (by omega)
  have c := dlt_bd hr.1 hr.2
  have d : 0 ≤ q * dlt r := Int.mul_nonneg hq.1 c.1
  have e : q * dlt r ≤ 2000 * 2016 := Int.mul_le_mul hq.2 c.2 c.1 (by omega)
  refine ⟨IntWalk.i64_in _ (by omega), IntWalk.i64_in _ (by omega), ?_, IntWalk.i64_in _ (by omega), IntWalk.i64_in _ (by omega)⟩
  rw [Int.tdiv_eq_ediv_of_nonneg a]
  exact IntWalk.i64_in _ (by unfold dlt at c; omega)
set_option maxHeartbeats 1600000 in
theorem l04Delta_any (B : Nat) (v : Value) (xs : List Int) (w : World) (h : Is w B v xs) (hB : B ≤ w.heap.size) (hR : isBr xs = true) :
    Calls Try.prog 37 #[.agg #[v]] w fun e w' => e = .returned (.int .i64 (sumW dlt (seqB xs))) ∧ Below w.heap.size w w' := by
  have Hh := Lib.hid h
  have HR := Lib.hid hR
  have hb1 : ∀ o, Below w.heap.size w (w.alloc o) := fun o => (Below.refl _ _).alloc (Nat.le_refl _) o
  have Hcs := Lib.hid (sum_seq dlt rfl hR)
  have Hok := Lib.hid (rowsOk hR)
  have hfew := rows_few hR
  obtain ⟨S, HS⟩ : ∃ S, Hid (rws xs (xs.length - 1) = S) := ⟨_, Lib.hid rfl⟩
  rw [HS.out] at Hcs Hok hfew
  obtain ⟨n, Hn⟩ : ∃ n, Hid (S.length = n) := ⟨_, Lib.hid rfl⟩
  rw [Hn.out] at hfew
  obtain ⟨A, n0, c, rfl, hnc, hcm, hrd⟩ := h
  clear hrd hR
  go_enter Try.func37, Try.ntmps37
  go_wp2_with fail
  refine (l04Runs_any B _ xs _ (Hh.out.below ((hb1 _).mono hB)) (by simp; omega) HR.out).mono ?_
  rintro e w1 ⟨v1, rfl, ⟨us, hU⟩, hb⟩
  rw [HS.out] at hU
  have hw1 := (hb1 _).trans (hb.mono (by simp))
  have hs1 := hw1.size
  obtain ⟨A1, c1, rfl, hnc1, hcm1⟩ := own_shape hU.row
  rw [Hn.out] at hnc1 hU ⊢
  have HU := Lib.hid hU
  clear hU hb hb1
  go_wp2
  go_loopw [4, 5] (fun u i wr => ∃ k : Nat, k ≤ n ∧ i = .int .i64 k ∧ u = .int .i64 (sumR dlt (S.take k)) ∧ Hid (wr.heap = w1.heap) ∧ Below w.heap.size w wr) (fun _ i _ => n - (intOf i).toNat)
  case atStart => exact ⟨0, Nat.zero_le _, rfl, rfl, Lib.hid rfl, hw1⟩
  case round =>
    obtain ⟨k, hk, rfl, rfl, hhp, hbe⟩ := hrel
    have hsb := sumR_bd (f := dlt) (M := 2016) (fun r h1 h2 => dlt_bd h1 h2) Hok.out k (by rw [Hn.out]; exact hk)
    by_cases hlt : k < n
    · obtain ⟨q, r, esr, hq0, hq1, hr0, hr1⟩ := Hok.out (gxx S k) (gxx_mem S k (by rw [Hn.out]; exact hlt))
      obtain ⟨g0, g, c2, rfl, hco, hc2, hc2m, hq, hr, _, _, _⟩ := own_pair HU.out Hn.out hlt esr
      have hcell : ∀ a, wr.cell? a = w1.cell? a := fun a => World.cell?_of_block (w := w1) (by rw [hhp.out])
      have hco2 := (hcell _).trans hco
      have hq2 := (hcell _).trans hq
      have hr2 := (hcell _).trans hr
      have hi1 : 0 ≤ (k : Int) ∧ (k : Int) < (n : Int) := by omega
      have hi2 : (0 : Int) < 2 ∧ (1 : Int) < 2 := by omega
      obtain ⟨e1, e2, e3, e4, e5⟩ := dlt_wraps (acc := sumR dlt (S.take k)) (q := q) (r := r) ⟨hq0, hq1⟩ ⟨hr0, hr1⟩ (by omega)
      have Hsn := Lib.hid (sumR_take dlt S k (by rw [Hn.out]; exact hlt) esr)
      clear esr hcell hco hq hr hsb
      go_wp2_with fail
      go_quiet (fail)
      go_wp2
      go_roundw
      case rel => exact ⟨k + 1, by omega, by go_num, by rw [Hsn.out], Lib.hid hhp.out, below_drewN hbe _⟩
      case measure => first | (simp [intOf]; done) | (simp [intOf]; omega)
    · obtain rfl : k = n := by omega
      have He := Lib.hid (show S.take k = S from List.take_of_length_le (Nat.le_of_eq Hn.out))
      go_wp2
      go_ret
      exact ⟨ret_i (by rw [He.out]; exact Hcs.out.symm), hbe⟩
set_option maxHeartbeats 1600000 in
theorem sCountBlowUps_any (B : Nat) (v : Value) (xs : List Int) (w : World) (h : Is w B v xs) (hB : B ≤ w.heap.size) : Calls Try.prog 12 #[.agg #[v]] w fun e w' => e = .returned (.tuple #[.int .i64 (bluB xs).1, .int .i64 (bluB xs).2]) ∧ Below w.heap.size w w' := by
  have Hh := Lib.hid h
  have hb1 : ∀ o, Below w.heap.size w (w.alloc o) := fun o => (Below.refl _ _).alloc (Nat.le_refl _) o
  cases hR : isBr xs
  · have Hr := Lib.hid (show bluB xs = (0, 1) by unfold bluB; rw [hR]; rfl)
    obtain ⟨A, n, c, rfl, hnc, hcm, hrd⟩ := h
    clear hrd
    go_enter Try.func12, Try.ntmps12
    go_wp2_with fail
    refine (l03Is_any B _ xs _ (Hh.out.below ((hb1 _).mono hB)) (by simp; omega)).mono ?_
    rintro e w1 ⟨rfl, hb⟩
    rw [hR]
    have hw1 := (hb1 _).trans (hb.mono (by simp))
    clear hb
    go_wp2_with fail
    go_ret2
    exact ⟨by rw [Hr.out]; rfl, hw1⟩
  · have HR := Lib.hid hR
    have Hcs := Lib.hid (show bluB xs = (sumR big1 (rws xs (xs.length - 1)), 0) by unfold bluB; rw [hR, sum_seq big1 rfl hR]; rfl)
    have Hok := Lib.hid (rowsOk hR)
    have hfew := rows_few hR
    obtain ⟨S, HS⟩ : ∃ S, Hid (rws xs (xs.length - 1) = S) := ⟨_, Lib.hid rfl⟩
    rw [HS.out] at Hcs Hok hfew
    obtain ⟨n, Hn⟩ : ∃ n, Hid (S.length = n) := ⟨_, Lib.hid rfl⟩
    rw [Hn.out] at hfew
    obtain ⟨A, n0, c, rfl, hnc, hcm, hrd⟩ := h
    clear hrd
    go_enter Try.func12, Try.ntmps12
    go_wp2_with fail
    refine (l03Is_any B _ xs _ (Hh.out.below ((hb1 _).mono hB)) (by simp; omega)).mono ?_
    rintro e w0 ⟨rfl, hb⟩
    rw [hR]
    have hc1 : w0.cell? ⟨w.heap.size, 0, none⟩ = some (.slice A n0 c) := (hb.cell (p := ⟨w.heap.size, 0, none⟩) (by simp)).trans (by simp [go_sem])
    have hw0 := (hb1 _).trans (hb.mono (by simp))
    have hs0 := hw0.size
    clear hb hb1
    go_wp2_with fail
    refine (l04Runs_any B _ xs _ (Hh.out.below (hw0.mono hB)) (by omega) HR.out).mono ?_
    rintro e w1 ⟨v1, rfl, ⟨us, hU⟩, hb⟩
    rw [HS.out] at hU
    have hw1 := hw0.trans (hb.mono hs0)
    obtain ⟨A1, c1, rfl, hnc1, hcm1⟩ := own_shape hU.row
    rw [Hn.out] at hnc1 hU ⊢
    have HU := Lib.hid hU
    clear hU hb
    go_wp2
    go_loop [5, 6] (fun u i => ∃ k : Nat, k ≤ n ∧ i = .int .i64 k ∧ u = .int .i64 (sumR big1 (S.take k))) (fun _ i => n - (intOf i).toNat)
    case atStart => exact ⟨0, Nat.zero_le _, rfl, rfl⟩
    case round =>
      obtain ⟨k, hk, rfl, rfl⟩ := hrel
      have hsb := sumR_bd (f := big1) (M := 1) (fun r h1 h2 => by unfold big1; split <;> omega) Hok.out k (by rw [Hn.out]; exact hk)
      by_cases hlt : k < n
      · obtain ⟨q, r, esr, hq0, hq1, hr0, hr1⟩ := Hok.out (gxx S k) (gxx_mem S k (by rw [Hn.out]; exact hlt))
        obtain ⟨g0, g, c2, rfl, hco, hc2, hc2m, hq, hr, _, _, _⟩ := own_pair HU.out Hn.out hlt esr
        have hi1 : 0 ≤ (k : Int) ∧ (k : Int) < (n : Int) := by omega
        have hi2 : (0 : Int) < 2 ∧ (1 : Int) < 2 := by omega
        have Hsn := Lib.hid (sumR_take big1 S k (by rw [Hn.out]; exact hlt) esr)
        clear esr
        by_cases hr1 : 1 < r
        · have Hb := Lib.hid (show q * big1 r = q by unfold big1; rw [if_pos hr1]; omega)
          go_wp2
          go_round
          case rel => exact ⟨k + 1, by omega, by go_num, by rw [Hsn.out, Hb.out]⟩
          case measure => first | (simp [intOf]; done) | (simp [intOf]; omega)
        · have Hb := Lib.hid (show q * big1 r = 0 by unfold big1; rw [if_neg hr1]; omega)
          go_wp2
          go_round
          case rel => exact ⟨k + 1, by omega, by go_num, by rw [Hsn.out, Hb.out, Int.add_zero]⟩
          case measure => first | (simp [intOf]; done) | (simp [intOf]; omega)
      · obtain rfl : k = n := by omega
        have He := Lib.hid (show S.take k = S from List.take_of_length_le (Nat.le_of_eq Hn.out))
        go_wp2
        go_ret2
        exact ⟨by rw [Hcs.out, He.out]; rfl, hw1⟩
end WD
end Go.Proofs.Ytcnoaclijhcckaa
