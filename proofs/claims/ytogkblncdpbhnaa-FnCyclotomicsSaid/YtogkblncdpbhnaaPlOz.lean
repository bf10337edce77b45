/-
  PLAIN LAWS, CHAPTER 2: the program's way to the cyclotomic polynomials, in wrapping numbers.
-/
import Derived.Test.YtogkblncdpbhnaaPlOA
namespace Go.Proofs.Ytogkblncdpbhnaa.Pl
open Go
set_option linter.unusedVariables false
theorem wr_sub (a b : Int) : wr (wr a - wr b) = wr (a - b) := by
  unfold wr; simp only [IntKind.wrap_i64]; omega
theorem wr_add (a b : Int) : wr (wr a + wr b) = wr (a + b) := by
  unfold wr; simp only [IntKind.wrap_i64]; omega
/-- Divided by 1 - t^d. -/
def dN (d : Nat) (f : Nat → Int) (i : Nat) : Int := if h : 1 ≤ d ∧ d ≤ i then f i + dN d f (i - d) else f i
termination_by i
decreasing_by omega
theorem dN_low {d i : Nat} (f : Nat → Int) (h : i < d) : dN d f i = f i := by rw [dN, dif_neg (by omega)]
theorem dN_up {d i : Nat} (f : Nat → Int) (h0 : 1 ≤ d) (h : d ≤ i) : dN d f i = f i + dN d f (i - d) := by rw [dN, dif_pos ⟨h0, h⟩]
theorem mN_dN {d : Nat} (hd : 1 ≤ d) (f : Nat → Int) : mN d (dN d f) = f := by
  funext i
  unfold mN
  by_cases h : d ≤ i
  · rw [if_pos h, dN_up f hd h]; omega
  · rw [if_neg h, dN_low f (by omega)]; omega
theorem mN_low {d i : Nat} (f : Nat → Int) (h : i < d) : mN d f i = f i := by unfold mN; rw [if_neg (by omega)]; omega
theorem mN_up {d i : Nat} (f : Nat → Int) (h : d ≤ i) : mN d f i = f i - f (i - d) := by unfold mN; rw [if_pos h]
/-- The series behind k steps. -/
def Sk (n k : Nat) (S : Nat → Int) : Prop := mNs (dsG n 2 k) S = mNs (dsG n 1 k) one
theorem Sk_zero (n : Nat) : Sk n 0 one := rfl
theorem Sk_skip {n k : Nat} {S : Nat → Int} (h : Sk n k S) (h1 : n % (k + 1) ≠ 0 ∨ mobC (n / (k + 1)) = 0) : Sk n (k + 1) S := by
  unfold Sk
  rw [dsG_out (s := 1) (h1.imp id (by omega)), dsG_out (s := 2) (h1.imp id (by omega))]; exact h
theorem Sk_mul {n k : Nat} {S : Nat → Int} (h : Sk n k S) (h1 : n % (k + 1) = 0) (h2 : mobC (n / (k + 1)) = 1) : Sk n (k + 1) (mN (k + 1) S) := by
  unfold Sk
  rw [dsG_in (s := 1) h1 h2, dsG_out (s := 2) (.inr (by omega)), mNs_comm, h]; rfl
theorem Sk_div {n k : Nat} {S : Nat → Int} (h : Sk n k S) (h1 : n % (k + 1) = 0) (h2 : mobC (n / (k + 1)) = 2) : Sk n (k + 1) (dN (k + 1) S) := by
  unfold Sk
  rw [dsG_out (s := 1) (.inr (by omega)), dsG_in (s := 2) h1 h2]
  show mN (k + 1) (mNs (dsG n 2 k) (dN (k + 1) S)) = _
  rw [← mNs_comm, mN_dN (by omega)]; exact h
def Cy (n k N : Nat) (out : List Int) : Prop := out.length = N ∧ ∃ S, Sk n k S ∧ ∀ j, j < N → gx out j = wr (S j)
def CyM (n k N i : Nat) (out : List Int) : Prop := out.length = N ∧ ∃ S, Sk n k S ∧ ∀ j, j < N → gx out j = wr (if i ≤ j then mN (k + 1) S j else S j)
def CyD (n k N i : Nat) (out : List Int) : Prop := out.length = N ∧ ∃ S, Sk n k S ∧ ∀ j, j < N → gx out j = wr (if j < i then dN (k + 1) S j else S j)
theorem Cy.start (n N : Nat) (hN : 1 ≤ N) : Cy n 0 N ((List.replicate N 0).set 0 1) := by
  refine ⟨by simp, one, Sk_zero n, fun j hj => ?_⟩
  rw [gx_set _ _ _ _ (by simp; omega)]
  unfold one
  by_cases h : j = 0
  · subst h; rfl
  · rw [if_neg h, if_neg h]
    unfold gx; simp [hj]; rfl
theorem Cy.skip {n k N : Nat} {out : List Int} (h : Cy n k N out) (h1 : n % (k + 1) ≠ 0 ∨ mobC (n / (k + 1)) = 0) : Cy n (k + 1) N out := by
  obtain ⟨hl, S, hs, h⟩ := h
  exact ⟨hl, S, Sk_skip hs h1, h⟩
theorem Cy.mul {n k N : Nat} {out : List Int} (h : Cy n k N out) : CyM n k N N out := by
  obtain ⟨hl, S, hs, h⟩ := h
  exact ⟨hl, S, hs, fun j hj => by rw [if_neg (by omega)]; exact h j hj⟩
theorem CyM.step {n k N i : Nat} {out : List Int} (h : CyM n k N (i + 1) out) (h1 : k + 1 ≤ i) (h2 : i < N) : CyM n k N i (out.set i (wr (gx out i - gx out (i - (k + 1))))) := by
  obtain ⟨hl, S, hs, h⟩ := h
  refine ⟨by rw [List.length_set]; exact hl, S, hs, fun j hj => ?_⟩
  rw [gx_set _ _ _ _ (by omega)]
  by_cases e : j = i
  · subst e
    rw [if_pos rfl, h _ h2, h _ (by omega), if_neg (by omega), if_neg (by omega), wr_sub, if_pos (Nat.le_refl _), mN_up S h1]
  · rw [if_neg e, h j hj]
    by_cases c : i ≤ j
    · rw [if_pos c, if_pos (by omega)]
    · rw [if_neg c, if_neg (by omega)]
theorem CyM.done {n k N i : Nat} {out : List Int} (h : CyM n k N i out) (hi : i ≤ k + 1 ∨ N ≤ k + 1) (h1 : n % (k + 1) = 0) (h2 : mobC (n / (k + 1)) = 1) : Cy n (k + 1) N out := by
  obtain ⟨hl, S, hs, h⟩ := h
  refine ⟨hl, _, Sk_mul hs h1 h2, fun j hj => ?_⟩
  rw [h j hj]
  by_cases c : i ≤ j
  · rw [if_pos c]
  · rw [if_neg c, mN_low S (by omega)]
theorem Cy.div {n k N : Nat} {out : List Int} (h : Cy n k N out) : CyD n k N (k + 1) out := by
  obtain ⟨hl, S, hs, h⟩ := h
  refine ⟨hl, S, hs, fun j hj => ?_⟩
  rw [h j hj]
  by_cases c : j < k + 1
  · rw [if_pos c, dN_low S c]
  · rw [if_neg c]
theorem CyD.step {n k N i : Nat} {out : List Int} (h : CyD n k N i out) (h1 : k + 1 ≤ i) (h2 : i < N) : CyD n k N (i + 1) (out.set i (wr (gx out i + gx out (i - (k + 1))))) := by
  obtain ⟨hl, S, hs, h⟩ := h
  refine ⟨by rw [List.length_set]; exact hl, S, hs, fun j hj => ?_⟩
  rw [gx_set _ _ _ _ (by omega)]
  by_cases e : j = i
  · subst e
    rw [if_pos rfl, h _ h2, h _ (by omega), if_neg (by omega), if_pos (by omega), wr_add, if_pos (by omega), dN_up S (by omega) h1]
  · rw [if_neg e, h j hj]
    by_cases c : j < i
    · rw [if_pos c, if_pos (by omega)]
    · rw [if_neg c, if_neg (by omega)]
theorem CyD.done {n k N i : Nat} {out : List Int} (h : CyD n k N i out) (hi : N ≤ i) (h1 : n % (k + 1) = 0) (h2 : mobC (n / (k + 1)) = 2) : Cy n (k + 1) N out := by
  obtain ⟨hl, S, hs, h⟩ := h
  refine ⟨hl, _, Sk_div hs h1 h2, fun j hj => ?_⟩
  rw [h j hj, if_pos (by omega)]
theorem Cy.phi {n N : Nat} {out : List Int} (h : Cy n n N out) (hc : chkA n = true) (hn : 2 ≤ n) (hN : N = totN n + 1) : out = phi n := by
  obtain ⟨hl, S, hs, h⟩ := h
  have e := series_phi hc hn hs
  refine gx_ext _ _ (by rw [phi_len, hl, hN]) fun j hj => ?_
  have hb := phi_bd hc j
  rw [h j (by omega), e, wr_in (by omega)]
end Go.Proofs.Ytogkblncdpbhnaa.Pl
