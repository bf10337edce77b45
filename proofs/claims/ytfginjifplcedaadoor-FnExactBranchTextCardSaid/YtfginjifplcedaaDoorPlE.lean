/-
  PLAIN LAWS, CHAPTER 3: branches, their divisors; no program in sight.
-/
import Derived.Test.YtfginjifplcedaaDoorPlA
namespace Go.Proofs.YtfginjifplcedaaDoor.Pl
set_option linter.unusedVariables false
/-! ### tests over all places -/
def allF (a n : Nat) (p : Nat → Bool) : Bool := (List.range' a (n - a)).all p
theorem allF_true {a n : Nat} {p : Nat → Bool} : allF a n p = true ↔ ∀ i, a ≤ i → i < n → p i = true := by
  unfold allF
  rw [List.all_eq_true]
  constructor
  · intro h i h1 h2; exact h i (List.mem_range'_1.2 ⟨h1, by omega⟩)
  · intro h i hi; have := List.mem_range'_1.1 hi; exact h i this.1 (by omega)
theorem allF_false {a n : Nat} {p : Nat → Bool} (i : Nat) (h1 : a ≤ i) (h2 : i < n) (h : p i = false) : allF a n p = false := by
  rw [Bool.eq_false_iff]; intro e; rw [allF_true.1 e i h1 h2] at h; cases h
theorem allF_none {a n : Nat} {p : Nat → Bool} (h : n ≤ a) : allF a n p = true := allF_true.2 fun i h1 h2 => by omega

/-! ### divisors -/
def dg (xs : List Int) : Nat → Int
  | 0 => 0
  | k + 1 => gcdI (dg xs k) (gx xs k)
theorem dg_succ (xs : List Int) (k : Nat) : dg xs (k + 1) = gcdI (dg xs k) (gx xs k) := rfl
theorem dg_nonneg (xs : List Int) (k : Nat) : 0 ≤ dg xs k := by
  cases k with
  | zero => exact Int.le_refl _
  | succ k => exact gcdI_nonneg _ _
def dvl (xs : List Int) (k : Nat) : List Int := (List.range k).map fun j => dg xs (j + 1)
def divs (xs : List Int) : List Int := dvl xs xs.length
theorem dvl_len (xs : List Int) (k : Nat) : (dvl xs k).length = k := by simp [dvl]
theorem divs_len (xs : List Int) : (divs xs).length = xs.length := dvl_len _ _
theorem dvl_zero (xs : List Int) : dvl xs 0 = [] := rfl
theorem dvl_snoc (xs : List Int) (k : Nat) : dvl xs (k + 1) = dvl xs k ++ [dg xs (k + 1)] := by simp [dvl, List.range_succ]
theorem gx_dvl (xs : List Int) (k j : Nat) (h : j < k) : gx (dvl xs k) j = dg xs (j + 1) := by
  rw [gx_eq _ _ (by rw [dvl_len]; exact h)]; simp [dvl]
theorem gx_divs (xs : List Int) (j : Nat) (h : j < xs.length) : gx (divs xs) j = dg xs (j + 1) := gx_dvl xs _ j h
theorem gcdI_zero_left (a : Int) (h : 0 ≤ a) : gcdI 0 a = a := by simp [gcdI]; omega
theorem dg_one (xs : List Int) (h : 0 ≤ gx xs 0) : dg xs 1 = gx xs 0 := gcdI_zero_left _ h
theorem gcdI_le_left (a b : Int) (ha : 0 < a) : gcdI a b ≤ a := by
  unfold gcdI
  have : Int.gcd a b ≤ a.natAbs := Nat.le_of_dvd (by omega) (by unfold Int.gcd; exact Nat.gcd_dvd_left _ _)
  omega
theorem gcdI_pos_left (a b : Int) (ha : 0 < a) : 0 < gcdI a b := by
  unfold gcdI
  have : 0 < Int.gcd a b := Int.gcd_pos_of_ne_zero_left _ (by omega)
  omega
theorem dg_pos (xs : List Int) (h : 1 ≤ gx xs 0) : ∀ k, 1 ≤ k → 1 ≤ dg xs k
  | 0, h => by omega
  | 1, _ => by rw [dg_one xs (by omega)]; exact h
  | k + 2, _ => by
    have := dg_pos xs h (k + 1) (by omega)
    rw [dg_succ]
    have := gcdI_pos_left (dg xs (k + 1)) (gx xs (k + 1)) (by omega)
    omega
theorem dg_mono (xs : List Int) (h : 1 ≤ gx xs 0) (k : Nat) (hk : 1 ≤ k) : dg xs (k + 1) ≤ dg xs k := by
  have := dg_pos xs h k hk
  rw [dg_succ]; exact gcdI_le_left _ _ (by omega)
theorem dg_le (xs : List Int) (h : 1 ≤ gx xs 0) : ∀ k, 1 ≤ k → dg xs k ≤ gx xs 0
  | 0, h => by omega
  | 1, _ => by rw [dg_one xs (by omega)]; exact Int.le_refl _
  | k + 2, _ => by
    have := dg_le xs h (k + 1) (by omega)
    exact Int.le_trans (dg_mono xs h (k + 1) (by omega)) this
/-! ### is it a branch? -/
def okT (xs : List Int) (i : Nat) : Bool := inR (gx xs i) (gx xs (i - 1) + 1) 2000 && (dg xs (i + 1) != dg xs i)
def isBr (xs : List Int) : Bool := decide (0 < xs.length) && inR (gx xs 0) 1 64 && allF 1 xs.length (okT xs) && (dg xs xs.length == 1)
def ascB (xs : List Int) : Bool := allF 1 xs.length fun i => decide (gx xs (i - 1) < gx xs i)
def wiB (xs : List Int) (l m : Int) : Bool := allF 0 xs.length fun i => inR (gx xs i) l m
def falB (xs : List Int) : Bool := allF 1 xs.length (fun i => decide (dg xs (i + 1) < dg xs i)) && (dg xs xs.length == 1)
theorem isBr_nil : isBr [] = false := rfl
theorem isBr_len {xs : List Int} (h : xs.length = 0) : isBr xs = false := by
  rw [List.eq_nil_of_length_eq_zero h]; rfl
theorem isBr_head {xs : List Int} (h : inR (gx xs 0) 1 64 = false) : isBr xs = false := by unfold isBr; rw [h]; simp
theorem isBr_step {xs : List Int} (i : Nat) (h1 : 1 ≤ i) (h2 : i < xs.length) (h : okT xs i = false) : isBr xs = false := by
  unfold isBr; rw [allF_false i h1 h2 h]; simp
theorem isBr_run {xs : List Int} (h0 : 0 < xs.length) (h1 : inR (gx xs 0) 1 64 = true) (h : ∀ i, 1 ≤ i → i < xs.length → okT xs i = true) : isBr xs = (dg xs xs.length == 1) := by
  unfold isBr; rw [h1, allF_true.2 h, decide_eq_true h0]; rfl
theorem isBr_true {xs : List Int} : isBr xs = true ↔ 0 < xs.length ∧ (1 ≤ gx xs 0 ∧ gx xs 0 ≤ 64) ∧ (∀ i, 1 ≤ i → i < xs.length → okT xs i = true) ∧ dg xs xs.length = 1 := by
  unfold isBr
  simp only [Bool.and_eq_true, decide_eq_true_eq, inR_true, allF_true, beq_iff_eq]
  constructor
  · rintro ⟨⟨⟨a, b⟩, c⟩, d⟩; exact ⟨a, b, c, d⟩
  · rintro ⟨a, b, c, d⟩; exact ⟨⟨⟨a, b⟩, c⟩, d⟩
theorem okT_true {xs : List Int} {i : Nat} : okT xs i = true ↔ gx xs (i - 1) < gx xs i ∧ gx xs i ≤ 2000 ∧ dg xs (i + 1) ≠ dg xs i := by
  unfold okT
  simp only [Bool.and_eq_true, inR_true, bne_iff_ne]
  constructor
  · rintro ⟨⟨a, b⟩, c⟩; exact ⟨by omega, b, c⟩
  · rintro ⟨a, b, c⟩; exact ⟨⟨by omega, b⟩, c⟩
/-- The program's own order of the tests. -/
theorem isBr_impl {xs : List Int} : isBr xs = (decide (0 < xs.length) && (inR (gx xs 0) 1 64 && (ascB xs && (wiB xs 1 2000 && falB xs)))) := by
  rw [Bool.eq_iff_iff, isBr_true]
  unfold ascB wiB falB
  simp only [Bool.and_eq_true, decide_eq_true_eq, inR_true, allF_true, beq_iff_eq]
  constructor
  · rintro ⟨h0, h1, h2, h3⟩
    have hm : ∀ i, i < xs.length → 1 ≤ gx xs i := by
      intro i
      induction i with
      | zero => intro _; omega
      | succ i ih =>
        intro hi
        have := (okT_true.1 (h2 (i + 1) (by omega) hi)).1
        have := ih (by omega)
        simp at *; omega
    refine ⟨h0, h1, fun i a b => (okT_true.1 (h2 i a b)).1, fun i _ b => ⟨hm i b, ?_⟩, fun i a b => ?_, h3⟩
    · rcases Nat.eq_zero_or_pos i with rfl | hp
      · omega
      · exact (okT_true.1 (h2 i hp b)).2.1
    · have := (okT_true.1 (h2 i a b)).2.2
      have := dg_mono xs h1.1 i a
      omega
  · rintro ⟨h0, h1, h2, h3, h4, h5⟩
    exact ⟨h0, h1, fun i a b => okT_true.2 ⟨h2 i a b, (h3 i (by omega) b).2, by have := h4 i a b; omega⟩, h5⟩
/-- What is known of a branch. -/
theorem isBr_range {xs : List Int} (h : isBr xs = true) : ∀ i, i < xs.length → 1 ≤ gx xs i ∧ gx xs i ≤ 2000 := by
  rw [isBr_impl] at h
  simp only [Bool.and_eq_true, wiB, allF_true, inR_true] at h
  exact fun i hi => h.2.2.2.1 i (by omega) hi
theorem isBr_asc {xs : List Int} (h : isBr xs = true) : ∀ i, 1 ≤ i → i < xs.length → gx xs (i - 1) < gx xs i := fun i h1 h2 => (okT_true.1 ((isBr_true.1 h).2.2.1 i h1 h2)).1
theorem isBr_fall {xs : List Int} (h : isBr xs = true) : ∀ i, 1 ≤ i → i < xs.length → dg xs (i + 1) < dg xs i := by
  intro i h1 h2
  have h3 := (okT_true.1 ((isBr_true.1 h).2.2.1 i h1 h2)).2.2
  have := dg_mono xs (isBr_true.1 h).2.1.1 i h1
  omega
theorem isBr_dg {xs : List Int} (h : isBr xs = true) : ∀ i, 1 ≤ i → 1 ≤ dg xs i ∧ dg xs i ≤ 64 := by
  intro i h1
  have h0 := (isBr_true.1 h).2.1
  exact ⟨dg_pos xs h0.1 i h1, Int.le_trans (dg_le xs h0.1 i h1) h0.2⟩
theorem dg_dvd (xs : List Int) (k : Nat) : dg xs (k + 1) ∣ gx xs k := gcdI_dvd_right _ _
theorem dg_dvd_dg (xs : List Int) (k : Nat) : dg xs (k + 1) ∣ dg xs k := gcdI_dvd_left _ _
/-- A proper divisor is at most half: at most six pairs. -/
theorem isBr_len_le {xs : List Int} (h : isBr xs = true) : xs.length ≤ 7 := by
  have h0 := (isBr_true.1 h).2.1
  have hlen := (isBr_true.1 h).1
  have key : ∀ j, j < xs.length → dg xs (j + 1) * 2 ^ j ≤ 64 := by
    intro j
    induction j with
    | zero => intro _; simp; rw [dg_one xs (by omega)]; omega
    | succ j ih =>
      intro hj
      have h1 := ih (by omega)
      have h2 := isBr_fall h (j + 1) (by omega) hj
      have h3 := dg_dvd_dg xs (j + 1)
      have h4 : 1 ≤ dg xs (j + 1 + 1) := (isBr_dg h (j + 2) (by omega)).1
      obtain ⟨c, hc⟩ := h3
      have hc2 : 2 ≤ c := by
        rcases Int.lt_or_le c 2 with hlt | hge
        · have : c ≤ 1 := by omega
          have : dg xs (j + 1 + 1) * c ≤ dg xs (j + 1 + 1) * 1 := Int.mul_le_mul_of_nonneg_left this (by omega)
          omega
        · exact hge
      have h5 : dg xs (j + 1 + 1) * 2 ≤ dg xs (j + 1) := by
        rw [hc]; exact Int.mul_le_mul_of_nonneg_left hc2 (by omega)
      have h6 : dg xs (j + 1 + 1) * 2 ^ (j + 1) = dg xs (j + 1 + 1) * 2 * 2 ^ j := by rw [Int.pow_succ, Int.mul_comm (2 ^ j), ← Int.mul_assoc]
      rw [h6]
      exact Int.le_trans (Int.mul_le_mul_of_nonneg_right h5 (by exact_mod_cast Nat.zero_le (2 ^ j))) h1
  rcases Nat.lt_or_ge 7 xs.length with hl | hl
  · have h1 := key 7 hl
    have h2 := (isBr_dg h 8 (by omega)).1
    simp at h1; omega
  · exact hl
/-! ### results -/
def mulB (xs : List Int) : Int × Int := if isBr xs then (gx xs 0, 0) else (0, 1)
def cntB (xs : List Int) : Int × Int := if isBr xs then ((xs.length : Int) - 1, 0) else (0, 1)
def divB (xs : List Int) : List Int × Int := if isBr xs then (divs xs, 0) else ([], 1)
theorem divB_len (xs : List Int) : (divB xs).1.length ≤ 1000000000 := by
  unfold divB; split
  · rename_i h; have := isBr_len_le h; simp [divs_len]; omega
  · simp
end Go.Proofs.YtfginjifplcedaaDoor.Pl
