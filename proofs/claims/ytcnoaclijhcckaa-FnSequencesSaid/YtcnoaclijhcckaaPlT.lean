/-
  PLAIN LAWS, CHAPTER 3: a branch comes back from its pairs and its exponents; truncations have the first pairs; no program in sight.
-/
import Derived.Test.YtcnoaclijhcckaaPlJ
namespace Go.Proofs.Ytcnoaclijhcckaa.Pl
open K
set_option linter.unusedVariables false
theorem br0 {xs : List Int} (h : isBr xs = true) : 0 < xs.length ∧ 1 ≤ gx xs 0 ∧ gx xs 0 ≤ 64 := ⟨(isBr_true.1 h).1, (isBr_true.1 h).2.1.1, (isBr_true.1 h).2.1.2⟩
theorem dg_br1 {xs : List Int} (h : isBr xs = true) : dg xs 1 = gx xs 0 := dg_one _ (by have := br0 h; omega)
theorem dg_last {xs : List Int} (h : isBr xs = true) : dg xs xs.length = 1 := (isBr_true.1 h).2.2.2
theorem rat_mul {xs : List Int} (h : isBr xs = true) (j : Nat) (hj : 1 ≤ j) : dg xs j / dg xs (j + 1) * dg xs (j + 1) = dg xs j := Int.ediv_mul_cancel (dg_dvd_dg xs j)
theorem gxx_range (f : Nat → List Int) (n i : Nat) (h : i < n) : gxx ((List.range n).map f) i = f i := by
  rw [gxx_eq _ _ (by simpa using h)]; simp
theorem gx_two0 (a b : Int) : gx [a, b] 0 = a := rfl
theorem gx_two1 (a b : Int) : gx [a, b] 1 = b := rfl
theorem rat_pos {xs : List Int} (h : isBr xs = true) (j : Nat) (hj : 1 ≤ j) : 1 ≤ dg xs j / dg xs (j + 1) ∧ dg xs j / dg xs (j + 1) ≤ 64 := by
  have h1 := isBr_dg h j hj
  have h2 := isBr_dg h (j + 1) (by omega)
  have h3 := rat_mul h j hj
  constructor
  · have h4 : 0 < dg xs j / dg xs (j + 1) := by
      apply Int.lt_of_not_ge
      intro h5
      have := Int.mul_nonpos_of_nonpos_of_nonneg h5 (show 0 ≤ dg xs (j + 1) by omega)
      omega
    omega
  · exact Int.le_trans (Int.ediv_le_self _ (by omega)) h1.2
theorem div_pos {a d : Int} (ha : 1 ≤ a) (hd : 1 ≤ d) (h : d ∣ a) : 1 ≤ a / d ∧ a / d ≤ a := by
  have h3 := Int.ediv_mul_cancel h
  constructor
  · have h4 : 0 < a / d := by
      apply Int.lt_of_not_ge
      intro h5
      have := Int.mul_nonpos_of_nonpos_of_nonneg h5 (show 0 ≤ d by omega)
      omega
    omega
  · exact Int.ediv_le_self _ (by omega)
/-- Pairs as they come: first numbers f, second numbers the ratios. -/
def prs (xs : List Int) (f : Nat → Int) (k : Nat) : List (List Int) := (List.range k).map fun j => [f j, dg xs (j + 1) / dg xs (j + 2)]
theorem prs_len (xs : List Int) (f : Nat → Int) (k : Nat) : (prs xs f k).length = k := by simp [prs]
theorem gxx_prs (xs : List Int) (f : Nat → Int) (k j : Nat) (h : j < k) : gxx (prs xs f k) j = [f j, dg xs (j + 1) / dg xs (j + 2)] := gxx_range _ _ _ h
theorem prs_prd {xs : List Int} (h : isBr xs = true) (f : Nat → Int) (k : Nat) : ∀ j, j ≤ k → prd (prs xs f k) j * dg xs (j + 1) = gx xs 0
  | 0, _ => by rw [prd_zero, dg_br1 h]; omega
  | j + 1, hj => by
    have ih := prs_prd h f k j (by omega)
    rw [prd_succ, gxx_prs _ _ _ _ (by omega), gx_two1, Int.mul_assoc, rat_mul h (j + 1) (by omega)]
    exact ih
theorem prs_top {xs : List Int} (h : isBr xs = true) (f : Nat → Int) : prd (prs xs f (xs.length - 1)) (xs.length - 1) = gx xs 0 := by
  have h1 := prs_prd h f (xs.length - 1) (xs.length - 1) (Nat.le_refl _)
  have h2 := br0 h
  rw [show xs.length - 1 + 1 = xs.length by omega, dg_last h] at h1
  omega
theorem prs_ok {xs : List Int} (h : isBr xs = true) (f : Nat → Int) (hf : ∀ j, j < xs.length - 1 → 1 ≤ f j ∧ f j ≤ 2000) : okP (prs xs f (xs.length - 1)) = true := by
  refine okP_true.2 ⟨?_, ?_, ?_⟩
  · rw [prs_len]; have := isBr_len_le h; omega
  · intro i hi
    rw [prs_len] at hi
    rw [gxx_prs _ _ _ _ hi]
    have h1 : 1 ≤ dg xs (i + 1) / dg xs (i + 2) ∧ dg xs (i + 1) / dg xs (i + 2) ≤ 64 := rat_pos h (i + 1) (by omega)
    have h2 := hf i hi
    refine okRow_true.2 ⟨rfl, ?_, ?_⟩
    · rw [gx_two0]; exact h2
    · rw [gx_two1]; omega
  · rw [prs_len, prs_top h]; exact (br0 h).2.2
theorem prs_eK {xs : List Int} (h : isBr xs = true) (f : Nat → Int) : ∀ j, j ≤ xs.length - 1 → eK (prs xs f (xs.length - 1)) j = dg xs (j + 1)
  | 0, _ => by unfold eK; rw [prs_len, prs_top h, dg_br1 h]
  | j + 1, hj => by
    rw [eK_succ, prs_eK h f j (by omega), gxx_prs _ _ _ _ (by omega), gx_two1]
    have h1 := rat_mul h (j + 1) (by omega)
    have h2 := rat_pos h (j + 1) (by omega)
    generalize dg xs (j + 1) / dg xs (j + 2) = r at h1 h2 ⊢
    rw [← h1, Int.mul_comm]
    exact Int.mul_ediv_cancel _ (by omega)
theorem puiL_prs (xs : List Int) (k : Nat) : puiL xs k = prs xs (fun j => gx xs (j + 1) / dg xs (j + 2)) k := rfl
theorem newL_prs (xs : List Int) (k : Nat) : newL xs k = prs xs (fun j => stp xs (j + 1) / dg xs (j + 2)) k := rfl
theorem list_terms {xs : List Int} (h0 : 0 < xs.length) (f : Nat → Int) (hf : ∀ j, j < xs.length - 1 → f j = gx xs (j + 1)) : gx xs 0 :: (List.range (xs.length - 1)).map f = xs := by
  apply gx_ext
  · simp; omega
  · intro k hk
    simp at hk
    cases k with
    | zero => rfl
    | succ k =>
      rw [← hf k (by omega)]
      simp [gx, List.getD]
      rw [List.getElem?_eq_getElem (by simp; omega)]
      simp
theorem pui_first {xs : List Int} (h : isBr xs = true) (j : Nat) (hj : j < xs.length - 1) : 1 ≤ gx xs (j + 1) / dg xs (j + 2) ∧ gx xs (j + 1) / dg xs (j + 2) ≤ 2000 := by
  have h1 := isBr_range h (j + 1) (by omega)
  have h2 := isBr_dg h (j + 2) (by omega)
  have := div_pos h1.1 h2.1 (dg_dvd xs (j + 1))
  omega
theorem stp_dvd (xs : List Int) (i : Nat) (h1 : 1 ≤ i) : dg xs (i + 1) ∣ stp xs i := by
  unfold stp
  split
  · have := dg_dvd xs i; rwa [Int.sub_zero]
  · have h2 := dg_dvd xs (i - 1)
    rw [show i - 1 + 1 = i by omega] at h2
    exact Int.dvd_sub (dg_dvd xs i) (Int.dvd_trans (dg_dvd_dg xs i) h2)
theorem new_first {xs : List Int} (h : isBr xs = true) (j : Nat) (hj : j < xs.length - 1) : 1 ≤ stp xs (j + 1) / dg xs (j + 2) ∧ stp xs (j + 1) / dg xs (j + 2) ≤ 2000 := by
  have h1 := stp_bd h (j + 1) (by omega) (by omega)
  have h2 := isBr_dg h (j + 2) (by omega)
  have := div_pos h1.1 h2.1 (stp_dvd xs (j + 1) (by omega))
  omega
theorem lsT_back_f {xs : List Int} (h : isBr xs = true) (j : Nat) (hj : j < xs.length - 1) : lsT false (puiL xs (xs.length - 1)) (j + 1) = gx xs (j + 1) := by
  rw [lsT_pui, puiL_prs, prs_eK h _ (j + 1) (by omega), gxx_prs _ _ _ _ hj, gx_two0]
  exact Int.ediv_mul_cancel (dg_dvd xs (j + 1))
theorem lsT_back_t {xs : List Int} (h : isBr xs = true) : ∀ j, j < xs.length - 1 → lsT true (newL xs (xs.length - 1)) (j + 1) = gx xs (j + 1)
  | 0, hj => by
    rw [lsT_new, newL_prs, prs_eK h _ (0 + 1) (by omega), gxx_prs _ _ _ _ hj, gx_two0, Int.ediv_mul_cancel (stp_dvd xs (0 + 1) (by omega))]
    simp [lsT, stp]
  | j + 1, hj => by
    have ih := lsT_back_t h j (by omega)
    rw [lsT_new, ih, newL_prs, prs_eK h _ (j + 1 + 1) (by omega), gxx_prs _ _ _ _ hj, gx_two0, Int.ediv_mul_cancel (stp_dvd xs (j + 1 + 1) (by omega))]
    unfold stp
    rw [if_neg (by omega), show j + 1 + 1 - 1 = j + 1 by omega]
    omega
theorem bop_pui {xs : List Int} (h : isBr xs = true) : bopB false (puiL xs (xs.length - 1)) = (xs, 0) := by
  have h0 := (br0 h).1
  have hl : bpL false (puiL xs (xs.length - 1)) (puiL xs (xs.length - 1)).length = xs := by
    unfold bpL
    have e : prd (puiL xs (xs.length - 1)) (puiL xs (xs.length - 1)).length = gx xs 0 := by rw [puiL_len, puiL_prs, prs_top h]
    rw [e, puiL_len]
    exact list_terms h0 _ (fun j hj => lsT_back_f h j hj)
  have hok : okP (puiL xs (xs.length - 1)) = true := prs_ok h _ (fun j hj => pui_first h j hj)
  have := bopB_yes (added := false) hok (by rw [hl]; exact h) (by rw [hl]; simp [bpG])
  rw [this, hl]
theorem bop_new {xs : List Int} (h : isBr xs = true) : bopB true (newL xs (xs.length - 1)) = (xs, 0) := by
  have h0 := (br0 h).1
  have hl : bpL true (newL xs (xs.length - 1)) (newL xs (xs.length - 1)).length = xs := by
    unfold bpL
    have e : prd (newL xs (xs.length - 1)) (newL xs (xs.length - 1)).length = gx xs 0 := by rw [newL_len, newL_prs, prs_top h]
    rw [e, newL_len]
    exact list_terms h0 _ (fun j hj => lsT_back_t h j hj)
  have hok : okP (newL xs (xs.length - 1)) = true := prs_ok h _ (fun j hj => new_first h j hj)
  have := bopB_yes (added := true) hok (by rw [hl]; exact h) (by rw [hl]; simp [bpG])
  rw [this, hl]
/-! ### exponents -/
theorem bxE_tail {xs : List Int} (h : isBr xs = true) : ∀ k, bxE (gx xs 0) (xs.drop 1) k = dg xs (k + 1)
  | 0 => by unfold bxE; rw [dg_br1 h]
  | k + 1 => by
    unfold bxE
    rw [bxE_tail h k, gx_drop, Nat.add_comm 1 k]
    rfl
theorem bxL_tail {xs : List Int} (h : isBr xs = true) : ∀ k, k ≤ xs.length - 1 → bxL (gx xs 0) (xs.drop 1) k = xs.take (k + 1)
  | 0, _ => by
    have h0 := (br0 h).1
    unfold bxL
    match xs, h0 with
    | x :: t, _ => rfl
  | k + 1, hk => by
    have h0 := (br0 h).1
    have hne : ¬ gx (xs.drop 1) k % bxE (gx xs 0) (xs.drop 1) k = 0 := by
      rw [bxE_tail h, gx_drop, Nat.add_comm 1 k]
      have h1 := (okT_true.1 ((isBr_true.1 h).2.2.1 (k + 1) (by omega) (by omega))).2.2
      rw [dg_succ] at h1
      exact (gcdI_ne_iff (by have := isBr_dg h (k + 1) (by omega); omega)).1 h1
    rw [bxL_more hne, bxL_tail h k (by omega), gx_drop, Nat.add_comm 1 k, gx_eq _ _ (show k + 1 < xs.length by omega)]
    rw [List.take_succ_eq_append_getElem (show k + 1 < xs.length by omega)]
theorem bex_back {xs : List Int} (h : isBr xs = true) : bex (gx xs 0) (xs.drop 1) = (xs, 0) := by
  have h0 := br0 h
  have hok : okX (gx xs 0) (xs.drop 1) = true := by
    refine okX_true.2 ⟨h0.2, ?_, ?_, ?_⟩
    · have := isBr_len_le h; simp; omega
    · intro i h1 h2
      simp at h2
      rw [gx_drop, gx_drop, show 1 + (i - 1) = 1 + i - 1 by omega]
      exact isBr_asc h (1 + i) (by omega) (by omega)
    · intro i h2
      simp at h2
      rw [gx_drop]
      exact isBr_range h (1 + i) (by omega)
  have hl : bxL (gx xs 0) (xs.drop 1) (xs.drop 1).length = xs := by
    rw [List.length_drop, bxL_tail h _ (Nat.le_refl _)]
    exact List.take_of_length_le (by omega)
  unfold bex
  rw [hok, hl, h]; rfl
/-! ### truncations -/
theorem gx_trn (xs : List Int) (k j i : Nat) (h : i < j) : gx (trn xs k j) i = gx xs i / dg xs (k + 1) := by
  rw [gx_eq _ _ (by simp [trn]; exact h)]; simp [trn]
theorem gcdI_ediv {a b d : Int} (hd : 1 ≤ d) (ha : d ∣ a) (hb : d ∣ b) : gcdI (a / d) (b / d) = gcdI a b / d := by
  obtain ⟨x, rfl⟩ := ha
  obtain ⟨y, rfl⟩ := hb
  rw [Int.mul_ediv_cancel_left _ (by omega), Int.mul_ediv_cancel_left _ (by omega)]
  unfold gcdI
  rw [Int.gcd_mul_left]
  obtain ⟨n, rfl⟩ := Int.eq_ofNat_of_zero_le (show 0 ≤ d by omega)
  simp only [Int.natAbs_natCast, Int.natCast_mul]
  rw [Int.mul_ediv_cancel_left _ (by omega)]
theorem dg_dvd_more (xs : List Int) (a : Nat) : ∀ n, dg xs (a + n) ∣ dg xs a
  | 0 => Int.dvd_refl _
  | n + 1 => Int.dvd_trans (dg_dvd_dg xs (a + n)) (dg_dvd_more xs a n)
theorem dg_dvd_gx (xs : List Int) (k i : Nat) (h : i < k) : dg xs k ∣ gx xs i := by
  have := dg_dvd_more xs (i + 1) (k - (i + 1))
  rw [show i + 1 + (k - (i + 1)) = k by omega] at this
  exact Int.dvd_trans this (dg_dvd xs i)
theorem dg_trn {xs : List Int} (h : isBr xs = true) (k : Nat) : ∀ j, j ≤ k + 1 → dg (trn xs k (k + 1)) j = dg xs j / dg xs (k + 1)
  | 0, _ => by simp [dg]
  | j + 1, hj => by
    have hD := isBr_dg h (k + 1) (by omega)
    rw [dg_succ, dg_trn h k j (by omega), gx_trn _ _ _ _ (by omega), dg_succ]
    have h2 : dg xs (k + 1) ∣ dg xs j := by
      have := dg_dvd_more xs j (k + 1 - j)
      rwa [show j + (k + 1 - j) = k + 1 by omega] at this
    exact gcdI_ediv hD.1 h2 (dg_dvd_gx xs (k + 1) j (by omega))
theorem div_lt {a b d : Int} (hd : 1 ≤ d) (ha : d ∣ a) (hb : d ∣ b) (h : a < b) : a / d < b / d := by
  obtain ⟨x, rfl⟩ := ha
  obtain ⟨y, rfl⟩ := hb
  rw [Int.mul_ediv_cancel_left _ (by omega), Int.mul_ediv_cancel_left _ (by omega)]
  exact Int.lt_of_mul_lt_mul_left h (by omega)
theorem div_div {a b d : Int} (hd : 1 ≤ d) (hb1 : 1 ≤ b) (ha : d ∣ a) (hb : d ∣ b) (h : b ∣ a) : a / d / (b / d) = a / b := by
  obtain ⟨y, rfl⟩ := hb
  obtain ⟨x, rfl⟩ := h
  have hy : y ≠ 0 := by intro e; subst e; omega
  rw [Int.mul_assoc, Int.mul_ediv_cancel_left _ (by omega), Int.mul_ediv_cancel_left _ (by omega), Int.mul_ediv_cancel_left _ hy, ← Int.mul_assoc, Int.mul_ediv_cancel_left _ (by omega)]
theorem trn_br {xs : List Int} (h : isBr xs = true) (k : Nat) (hk : k < xs.length) : isBr (trn xs k (k + 1)) = true := by
  have hD := isBr_dg h (k + 1) (by omega)
  have h0 := br0 h
  have hg : ∀ i, i < k + 1 → dg xs (k + 1) ∣ gx xs i := fun i hi => dg_dvd_gx xs (k + 1) i hi
  refine isBr_true.2 ⟨by rw [trn_len]; omega, ?_, ?_, ?_⟩
  · rw [gx_trn _ _ _ _ (by omega)]
    have := div_pos h0.2.1 hD.1 (hg 0 (by omega))
    omega
  · intro i h1 h2
    rw [trn_len] at h2
    refine okT_true.2 ⟨?_, ?_, ?_⟩
    · rw [gx_trn _ _ _ _ (by omega), gx_trn _ _ _ _ (by omega)]
      exact div_lt hD.1 (hg _ (by omega)) (hg _ (by omega)) (isBr_asc h i h1 (by omega))
    · rw [gx_trn _ _ _ _ (by omega)]
      have h3 := isBr_range h i (by omega)
      have := div_pos h3.1 hD.1 (hg i (by omega))
      omega
    · rw [dg_trn h k (i + 1) (by omega), dg_trn h k i (by omega)]
      have h3 := isBr_fall h i h1 (by omega)
      have e1 := dg_dvd_more xs (i + 1) (k + 1 - (i + 1))
      rw [show i + 1 + (k + 1 - (i + 1)) = k + 1 by omega] at e1
      have := div_lt hD.1 e1 (Int.dvd_trans e1 (dg_dvd_dg xs i)) h3
      omega
  · rw [trn_len, dg_trn h k (k + 1) (Nat.le_refl _)]
    exact Int.ediv_self (by omega)
theorem trn_pui {xs : List Int} (h : isBr xs = true) (k : Nat) (hk : k < xs.length) : puiL (trn xs k (k + 1)) ((trn xs k (k + 1)).length - 1) = (puiL xs (xs.length - 1)).take k := by
  have hD := isBr_dg h (k + 1) (by omega)
  rw [trn_len, Nat.add_sub_cancel]
  have hl : ((puiL xs (xs.length - 1)).take k).length = k := by rw [List.length_take, puiL_len]; omega
  apply gxx_ext
  · rw [puiL_len, hl]
  · intro j hj
    rw [puiL_len] at hj
    have e2 : gxx ((puiL xs (xs.length - 1)).take k) j = gxx (puiL xs (xs.length - 1)) j := by simp [gxx, List.getD, hj]
    rw [e2]
    unfold puiL
    rw [gxx_range _ _ _ hj, gxx_range _ _ _ (by omega), gx_trn _ _ _ _ (by omega), dg_trn h k (j + 1) (by omega), dg_trn h k (j + 2) (by omega)]
    have e3 := dg_dvd_more xs (j + 2) (k + 1 - (j + 2))
    rw [show j + 2 + (k + 1 - (j + 2)) = k + 1 by omega] at e3
    have hd2 := isBr_dg h (j + 2) (by omega)
    rw [div_div hD.1 hd2.1 (dg_dvd_gx xs (k + 1) (j + 1) (by omega)) e3 (dg_dvd xs (j + 1)), div_div hD.1 hd2.1 (Int.dvd_trans e3 (dg_dvd_dg xs (j + 1))) e3 (dg_dvd_dg xs (j + 1))]
end Go.Proofs.Ytcnoaclijhcckaa.Pl
