/-
  PLAIN LAWS, CHAPTER 2: binomial products; no program in sight.
-/
import Derived.Test.YtogkblncdpbhnaaPlP
import Derived.Test.YtogkblncdpbhnaaKitR
namespace Go.Proofs.Ytogkblncdpbhnaa
set_option linter.unusedVariables false
namespace Pl
open K
/-- t^n - 1. -/
def binL (n : Nat) : List Int := ((List.replicate (n + 1) 0).set 0 (-1)).set n 1
theorem binL_len (n : Nat) : (binL n).length = n + 1 := by simp [binL]
theorem binL_isPoly {n : Nat} (h1 : 1 ≤ n) (h2 : n ≤ 2000) : isPoly (binL n) = true := by
  have hg : ∀ k, gx (binL n) k = if k = n then 1 else if k = 0 then -1 else 0 := fun k => by
    unfold binL
    rw [Pl.gx_set _ _ _ _ (by simp), Pl.gx_set _ _ _ _ (by simp), gx_zeros]
  refine isPoly_yes (by rw [binL_len]; omega) (.inr ?_) fun k _ => ?_
  · rw [binL_len, Nat.add_sub_cancel, hg, if_pos rfl]; decide
  · rw [hg]; split
    · decide
    · split <;> decide
/-- Times t^n - 1, e times. -/
def mulT (n : Nat) : Nat → List Int → List Int × Int
  | 0, out => (out, 0)
  | e + 1, out => if (prodP out (binL n)).2 = 0 then mulT n e (prodP out (binL n)).1 else ([], 3)
def divT (n : Nat) : Nat → List Int → List Int × Int
  | 0, out => (out, 0)
  | e + 1, out => if (quoP out (binL n)).2 = 0 then divT n e (quoP out (binL n)).1 else ([], (quoP out (binL n)).2)
def thn (r : List Int × Int) (f : List Int → List Int × Int) : List Int × Int := if r.2 = 0 then f r.1 else ([], r.2)
theorem thn_ok (out : List Int) (f : List Int → List Int × Int) : thn (out, 0) f = f out := rfl
theorem thn_no {c : Int} (h : c ≠ 0) (f : List Int → List Int × Int) : thn ([], c) f = ([], c) := if_neg h
def mulR : List (List Int) → List Int → List Int × Int
  | [], out => (out, 0)
  | s :: t, out => thn (mulT (gx s 0).toNat (gx s 1).toNat out) (mulR t)
def divR : List (List Int) → List Int → List Int × Int
  | [], out => (out, 0)
  | s :: t, out => thn (divT (gx s 0).toNat (-(gx s 1)).toNat out) (divR t)
def okB (s : List Int) : Bool := decide (s.length = 2) && (inR (gx s 0) 1 2000 && inR (gx s 1) (-20) 20)
theorem okB_true {s : List Int} : okB s = true ↔ s.length = 2 ∧ (1 ≤ gx s 0 ∧ gx s 0 ≤ 2000) ∧ (-20 ≤ gx s 1 ∧ gx s 1 ≤ 20) := by
  unfold okB; simp only [Bool.and_eq_true, decide_eq_true_eq, inR_true]
/-- The degree of the binomials to multiply, of the first k pairs. -/
def dgB (xss : List (List Int)) : Nat → Int
  | 0 => 0
  | k + 1 => dgB xss k + gx (gxx xss k) 0 * max (gx (gxx xss k) 1) 0
theorem dgB_succ (xss : List (List Int)) (k : Nat) : dgB xss (k + 1) = dgB xss k + gx (gxx xss k) 0 * max (gx (gxx xss k) 1) 0 := rfl
def allB (xss : List (List Int)) : Bool := (List.range xss.length).all fun i => okB (gxx xss i)
theorem allB_true {xss : List (List Int)} : allB xss = true ↔ ∀ i, i < xss.length → okB (gxx xss i) = true := by
  unfold allB; rw [List.all_eq_true]; simp
theorem allB_no {xss : List (List Int)} (i : Nat) (hi : i < xss.length) (h : okB (gxx xss i) = false) : allB xss = false := by
  cases e : allB xss
  · rfl
  · rw [allB_true.1 e i hi] at h; cases h
theorem dgB_bd {xss : List (List Int)} : ∀ (k : Nat), (∀ i, i < k → okB (gxx xss i) = true) → 0 ≤ dgB xss k ∧ dgB xss k ≤ 40000 * (k : Int)
  | 0, _ => by simp [dgB]
  | k + 1, h => by
    have h0 := dgB_bd k fun i hi => h i (by omega)
    have h1 := (okB_true.1 (h k (by omega))).2
    rw [dgB_succ]
    have a : 0 ≤ gx (gxx xss k) 0 * max (gx (gxx xss k) 1) 0 := Int.mul_nonneg (by omega) (by omega)
    have b : gx (gxx xss k) 0 * max (gx (gxx xss k) 1) 0 ≤ 2000 * 20 := Int.mul_le_mul (by omega) (by omega) (by omega) (by omega)
    omega
def codB (xss : List (List Int)) : Int := if 40 < xss.length then 2 else if allB xss then (if 2000 < dgB xss xss.length then 3 else 0) else 2
theorem codB_long {xss : List (List Int)} (h : 40 < xss.length) : codB xss = 2 := if_pos h
theorem codB_bad {xss : List (List Int)} (h : allB xss = false) : codB xss = 2 := by unfold codB; rw [h]; split <;> rfl
theorem codB_deg {xss : List (List Int)} (h0 : ¬ 40 < xss.length) (h : allB xss = true) (hd : 2000 < dgB xss xss.length) : codB xss = 3 := by unfold codB; rw [if_neg h0, h, if_pos hd]; rfl
theorem codB_ok {xss : List (List Int)} (h0 : ¬ 40 < xss.length) (h : allB xss = true) (hd : ¬ 2000 < dgB xss xss.length) : codB xss = 0 := by unfold codB; rw [if_neg h0, h, if_neg hd]; rfl
def bnP (xss : List (List Int)) : List Int × Int := if codB xss = 0 then thn (mulR xss [1]) (divR xss) else ([], codB xss)
/-- All that a binomial product holds is a polynomial. -/
theorem mulT_poly {n : Nat} (h1 : 1 ≤ n) (h2 : n ≤ 2000) : ∀ (e : Nat) (out o : List Int), isPoly out = true → 0 < out.length → mulT n e out = (o, 0) → isPoly o = true ∧ 0 < o.length
  | 0, out, o, h, h0, e => by cases e; exact ⟨h, h0⟩
  | k + 1, out, o, h, h0, e => by
    unfold mulT at e
    split at e
    · rename_i hc
      have hp : prodP out (binL n) = ((prodP out (binL n)).1, 0) := by rw [← hc]
      have hl := (prodP_sem hp h0 (by rw [binL_len]; omega)).1
      rw [binL_len] at hl
      exact mulT_poly h1 h2 k _ o (prodP_isPoly hp h (binL_isPoly h1 h2)) (by omega) e
    · cases e
theorem step_mul {n : Nat} {out : List Int} (h1 : 1 ≤ n) (h2 : n ≤ 2000) (h : isPoly out = true) (h0 : 0 < out.length) (hc : (prodP out (binL n)).2 = 0) : isPoly (prodP out (binL n)).1 = true ∧ 0 < (prodP out (binL n)).1.length := by
  have hp : prodP out (binL n) = ((prodP out (binL n)).1, 0) := by rw [← hc]
  have hl := (prodP_sem hp h0 (by rw [binL_len]; omega)).1
  rw [binL_len] at hl
  exact ⟨prodP_isPoly hp h (binL_isPoly h1 h2), by omega⟩
theorem step_div {n : Nat} {out : List Int} (h1 : 1 ≤ n) (h2 : n ≤ 2000) (h : isPoly out = true) (h0 : 0 < out.length) (hc : (quoP out (binL n)).2 = 0) : isPoly (quoP out (binL n)).1 = true ∧ 0 < (quoP out (binL n)).1.length := by
  have hp : quoP out (binL n) = ((quoP out (binL n)).1, 0) := by rw [← hc]
  have := quoP_isPoly hp h (binL_isPoly h1 h2)
  exact ⟨this.1, this.2 h0⟩
end Pl
end Go.Proofs.Ytogkblncdpbhnaa
