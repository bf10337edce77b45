/-
  PLAIN LAWS, CHAPTER 3: branches of pairs; no program in sight.
-/
import Derived.Test.YtcnoaclijhcckaaPlH
import Derived.Test.YtcnoaclijhcckaaKitR
namespace Go.Proofs.Ytcnoaclijhcckaa.Pl
open K
set_option linter.unusedVariables false
/-- A pair as told. -/
def okRow (r : List Int) : Bool := decide (r.length = 2) && wiB r 1 2000
/-- The product of the first k second numbers. -/
def prd (xss : List (List Int)) : Nat → Int
  | 0 => 1
  | k + 1 => prd xss k * gx (gxx xss k) 1
theorem prd_zero (xss : List (List Int)) : prd xss 0 = 1 := rfl
theorem prd_succ (xss : List (List Int)) (k : Nat) : prd xss (k + 1) = prd xss k * gx (gxx xss k) 1 := rfl
def okP (xss : List (List Int)) : Bool := decide (xss.length ≤ 6) && (allF 0 xss.length (fun i => okRow (gxx xss i)) && decide (prd xss xss.length ≤ 64))
theorem okRow_true {r : List Int} : okRow r = true ↔ r.length = 2 ∧ (1 ≤ gx r 0 ∧ gx r 0 ≤ 2000) ∧ (1 ≤ gx r 1 ∧ gx r 1 ≤ 2000) := by
  unfold okRow wiB
  simp only [Bool.and_eq_true, decide_eq_true_eq, allF_true, inR_true]
  constructor
  · rintro ⟨a, b⟩; exact ⟨a, b 0 (by omega) (by omega), b 1 (by omega) (by omega)⟩
  · rintro ⟨a, b, c⟩
    refine ⟨a, fun i _ hi => ?_⟩
    have : i = 0 ∨ i = 1 := by omega
    rcases this with rfl | rfl
    · exact b
    · exact c
theorem okP_true {xss : List (List Int)} : okP xss = true ↔ xss.length ≤ 6 ∧ (∀ i, i < xss.length → okRow (gxx xss i) = true) ∧ prd xss xss.length ≤ 64 := by
  unfold okP
  simp only [Bool.and_eq_true, decide_eq_true_eq, allF_true]
  exact ⟨fun ⟨a, b, c⟩ => ⟨a, fun i h => b i (Nat.zero_le _) h, c⟩, fun ⟨a, b, c⟩ => ⟨a, fun i _ h => b i h, c⟩⟩
theorem prd_pos {xss : List (List Int)} : ∀ {k : Nat}, (∀ i, i < k → okRow (gxx xss i) = true) → 1 ≤ prd xss k
  | 0, _ => by simp [prd]
  | k + 1, h => by
    have h1 := prd_pos (k := k) fun i hi => h i (by omega)
    have h2 := (okRow_true.1 (h k (by omega))).2.2.1
    rw [prd_succ]
    have := Int.mul_le_mul h1 h2 (by omega) (by omega)
    omega
theorem prd_mono {xss : List (List Int)} {j : Nat} : ∀ {k : Nat}, (∀ i, i < k → okRow (gxx xss i) = true) → j ≤ k → prd xss j ≤ prd xss k
  | 0, _, hj => by obtain rfl : j = 0 := by omega
                   exact Int.le_refl _
  | k + 1, h, hj => by
    by_cases e : j = k + 1
    · rw [e]; exact Int.le_refl _
    · have h0 := prd_mono (j := j) (k := k) (fun i hi => h i (by omega)) (by omega)
      have h1 := prd_pos (k := k) fun i hi => h i (by omega)
      have h2 := (okRow_true.1 (h k (by omega))).2.2.1
      rw [prd_succ]
      have := Int.mul_le_mul_of_nonneg_left h2 (show (0 : Int) ≤ prd xss k by omega)
      omega
theorem prd_top {xss : List (List Int)} {k : Nat} (h : ∀ i, i < k → okRow (gxx xss i) = true) (hk : prd xss k ≤ 64) (hr : okRow (gxx xss k) = true) : 1 ≤ prd xss k * gx (gxx xss k) 1 ∧ prd xss k * gx (gxx xss k) 1 ≤ 128000 := by
  have h1 := prd_pos h
  have h2 := (okRow_true.1 hr).2.2
  have h3 := Int.mul_le_mul h1 h2.1 (by omega) (by omega)
  have h4 := Int.mul_le_mul hk h2.2 (by omega) (by omega)
  omega
theorem okP_no6 {xss : List (List Int)} (h : 6 < xss.length) : okP xss = false := by
  cases e : okP xss
  · rfl
  · have := (okP_true.1 e).1; omega
theorem okP_row {xss : List (List Int)} (i : Nat) (hi : i < xss.length) (h : okRow (gxx xss i) = false) : okP xss = false := by
  cases e : okP xss
  · rfl
  · have := (okP_true.1 e).2.1 i hi; rw [h] at this; cases this
theorem okP_big {xss : List (List Int)} (k : Nat) (hk : k ≤ xss.length) (h : 64 < prd xss k) : okP xss = false := by
  cases e : okP xss
  · rfl
  · have h1 := okP_true.1 e
    have := prd_mono (j := k) h1.2.1 hk; omega
theorem okRow_len {r : List Int} (h : r.length ≠ 2) : okRow r = false := by unfold okRow; simp [h]
theorem okRow_wi {r : List Int} (h : wiB r 1 2000 = false) : okRow r = false := by unfold okRow; rw [h]; simp
theorem okRow_hd {r : List Int} (h : inR (gx r 0) 1 2000 = false) : okRow r = false := by
  cases e : okRow r
  · rfl
  · have := (okRow_true.1 e).2.1; rw [← inR_true, h] at this; cases this
theorem okRow_sn {r : List Int} (h : inR (gx r 1) 1 2000 = false) : okRow r = false := by
  cases e : okRow r
  · rfl
  · have := (okRow_true.1 e).2.2; rw [← inR_true, h] at this; cases this
/-- What the product's function answers. -/
def prR (xss : List (List Int)) : Int := if okP xss then prd xss xss.length else 0
theorem prR_no {xss : List (List Int)} (h : okP xss = false) : prR xss = 0 := by unfold prR; rw [h]; rfl
theorem prR_yes {xss : List (List Int)} (h : okP xss = true) : prR xss = prd xss xss.length := by unfold prR; rw [h]; rfl
/-- What is left of the product behind k pairs. -/
def eK (xss : List (List Int)) : Nat → Int
  | 0 => prd xss xss.length
  | k + 1 => eK xss k / gx (gxx xss k) 1
theorem eK_succ (xss : List (List Int)) (k : Nat) : eK xss (k + 1) = eK xss k / gx (gxx xss k) 1 := rfl
theorem eK_bd {xss : List (List Int)} (h : okP xss = true) : ∀ k, k ≤ xss.length → 0 ≤ eK xss k ∧ eK xss k ≤ 64
  | 0, _ => by
    have h1 := okP_true.1 h
    have := prd_pos h1.2.1
    exact ⟨by unfold eK; omega, h1.2.2⟩
  | k + 1, hk => by
    have h0 := eK_bd h k (by omega)
    have h2 := (okRow_true.1 ((okP_true.1 h).2.1 k (by omega))).2.2
    rw [eK_succ]
    exact ⟨Int.ediv_nonneg h0.1 (by omega), Int.le_trans (Int.ediv_le_self _ h0.1) h0.2⟩
/-- The last term behind k pairs; added: pairs as Newton's. -/
def lsT (added : Bool) (xss : List (List Int)) : Nat → Int
  | 0 => 0
  | k + 1 => gx (gxx xss k) 0 * eK xss (k + 1) + (if added then lsT added xss k else 0)
theorem lsT_pui (xss : List (List Int)) (k : Nat) : lsT false xss (k + 1) = gx (gxx xss k) 0 * eK xss (k + 1) := by simp [lsT]
theorem lsT_new (xss : List (List Int)) (k : Nat) : lsT true xss (k + 1) = gx (gxx xss k) 0 * eK xss (k + 1) + lsT true xss k := by simp [lsT]
theorem trm_bd {xss : List (List Int)} (h : okP xss = true) (k : Nat) (hk : k < xss.length) : 0 ≤ gx (gxx xss k) 0 * eK xss (k + 1) ∧ gx (gxx xss k) 0 * eK xss (k + 1) ≤ 128000 := by
  have h0 := eK_bd h (k + 1) (by omega)
  have h2 := (okRow_true.1 ((okP_true.1 h).2.1 k hk)).2.1
  have := Int.mul_le_mul h2.2 h0.2 h0.1 (by omega)
  exact ⟨Int.mul_nonneg (by omega) h0.1, by omega⟩
theorem lsT_bd {added : Bool} {xss : List (List Int)} (h : okP xss = true) : ∀ k, k ≤ xss.length → 0 ≤ lsT added xss k ∧ lsT added xss k ≤ 128000 * (k : Int)
  | 0, _ => by simp [lsT]
  | k + 1, hk => by
    have h0 := lsT_bd (added := added) h k (by omega)
    have h1 := trm_bd h k (by omega)
    unfold lsT
    split <;> omega
theorem lsT_bd6 {added : Bool} {xss : List (List Int)} (h : okP xss = true) (k : Nat) (hk : k ≤ xss.length) : 0 ≤ lsT added xss k ∧ lsT added xss k ≤ 768000 := by
  have h0 := lsT_bd (added := added) h k hk
  have := (okP_true.1 h).1
  omega
def bpL (added : Bool) (xss : List (List Int)) (k : Nat) : List Int := prd xss xss.length :: (List.range k).map fun j => lsT added xss (j + 1)
theorem bpL_zero (added : Bool) (xss : List (List Int)) : bpL added xss 0 = [prd xss xss.length] := by simp [bpL]
theorem bpL_snoc (added : Bool) (xss : List (List Int)) (k : Nat) : bpL added xss (k + 1) = bpL added xss k ++ [lsT added xss (k + 1)] := by simp [bpL, List.range_succ]
theorem bpL_len (added : Bool) (xss : List (List Int)) (k : Nat) : (bpL added xss k).length = k + 1 := by simp [bpL]
/-- The pairs of a list of terms. -/
def bpG (added : Bool) (ts : List Int) : List (List Int) := if added then newL ts (ts.length - 1) else puiL ts (ts.length - 1)
def bopB (added : Bool) (xss : List (List Int)) : List Int × Int :=
  if okP xss then (if isBr (bpL added xss xss.length) && (bpG added (bpL added xss xss.length) == xss) then (bpL added xss xss.length, 0) else ([], 5)) else ([], 2)
theorem bopB_no {added : Bool} {xss : List (List Int)} (h : okP xss = false) : bopB added xss = ([], 2) := by unfold bopB; rw [h]; rfl
theorem bopB_br {added : Bool} {xss : List (List Int)} (h : okP xss = true) (hb : isBr (bpL added xss xss.length) = false) : bopB added xss = ([], 5) := by unfold bopB; rw [h, hb]; rfl
theorem bopB_ne {added : Bool} {xss : List (List Int)} (h : okP xss = true) (hb : isBr (bpL added xss xss.length) = true) (he : (bpG added (bpL added xss xss.length) == xss) = false) : bopB added xss = ([], 5) := by
  unfold bopB; rw [h, hb, he]; rfl
theorem bopB_yes {added : Bool} {xss : List (List Int)} (h : okP xss = true) (hb : isBr (bpL added xss xss.length) = true) (he : (bpG added (bpL added xss xss.length) == xss) = true) : bopB added xss = (bpL added xss xss.length, 0) := by
  unfold bopB; rw [h, hb, he]; rfl
theorem bopB_len (added : Bool) (xss : List (List Int)) : (bopB added xss).1.length ≤ 1000000000 := by
  unfold bopB; split
  · rename_i h; split
    · have := (okP_true.1 h).1; simp [bpL_len]; omega
    · simp
  · simp
end Go.Proofs.Ytcnoaclijhcckaa.Pl
