/-
  PLAIN LAWS, CHAPTER 2: products, step by step; no program in sight.
-/
import Derived.Test.YtogkblncdpbhnaaPlB
namespace Go.Proofs.Ytogkblncdpbhnaa.Pl
set_option linter.unusedVariables false
theorem absI_nat (n : Int) : absI n = (n.natAbs : Int) := by unfold absI; split <;> omega
def ppB (s a b : Int) : Bool := (plusPr s a b).isSome
def ppV (s a b : Int) : Int := (plusPr s a b).getD (if 2000000000000 / absI b < absI a then 0 else s + a * b)
theorem pp_some {s a b : Int} (h : ppB s a b = true) : plusPr s a b = some (ppV s a b) := by
  unfold ppB at h; unfold ppV
  cases e : plusPr s a b with
  | none => rw [e] at h; cases h
  | some x => rfl
theorem pp_none {s a b : Int} (h : ppB s a b = false) : plusPr s a b = none := by
  unfold ppB at h
  cases e : plusPr s a b with
  | none => rfl
  | some x => rw [e] at h; cases h
theorem pp_zero {s a b : Int} (h : a = 0 ∨ b = 0) : ppB s a b = true ∧ ppV s a b = s := by
  have e : plusPr s a b = some s := by unfold plusPr; rw [if_pos h]
  unfold ppB ppV; rw [e]; exact ⟨rfl, rfl⟩
theorem pp_big {s a b : Int} (h : ¬ (a = 0 ∨ b = 0)) (hb : 2000000000000 / absI b < absI a) : ppB s a b = false ∧ ppV s a b = 0 := by
  have e : plusPr s a b = none := by unfold plusPr; rw [if_neg h, ← absI_nat, ← absI_nat, if_pos hb]
  unfold ppB ppV; rw [e, if_pos hb]; exact ⟨rfl, rfl⟩
theorem pp_go {s a b : Int} (h : ¬ (a = 0 ∨ b = 0)) (hb : ¬ 2000000000000 / absI b < absI a) : ppB s a b = isCoef (s + a * b) ∧ ppV s a b = s + a * b := by
  unfold ppB ppV plusPr
  rw [if_neg h, ← absI_nat, ← absI_nat, if_neg hb, if_neg hb]
  cases hc : isCoef (s + a * b) <;> simp
/-- As the reference has it: b not nought. -/
theorem pp_spec_big {s a b : Int} (h0 : b ≠ 0) (hb : 2000000000000 / absI b < absI a) : ppB s a b = false := by
  refine (pp_big ?_ hb).1
  rintro (h | h)
  · subst h
    have h1 : (0 : Int) ≤ 2000000000000 / absI b := Int.ediv_nonneg (by decide) (by unfold absI; split <;> omega)
    have : absI 0 = 0 := by decide
    omega
  · exact h0 h
theorem pp_spec {s a b : Int} (h0 : b ≠ 0) (hs : isCoef s = true) (hb : ¬ 2000000000000 / absI b < absI a) : ppB s a b = isCoef (s + a * b) ∧ ppV s a b = s + a * b := by
  by_cases ha : a = 0
  · subst ha
    have := pp_zero (s := s) (a := 0) (b := b) (.inl rfl)
    rw [this.1, this.2, Int.zero_mul, Int.add_zero, hs]; exact ⟨rfl, rfl⟩
  · exact pp_go (by omega) hb
theorem mul_small {a b : Int} (h0 : b ≠ 0) (hb : ¬ 2000000000000 / absI b < absI a) : -2000000000000 ≤ a * b ∧ a * b ≤ 2000000000000 := by
  have hb1 : 1 ≤ absI b := by unfold absI; split <;> omega
  have h1 : absI a * absI b ≤ 2000000000000 := by
    have h2 := Int.mul_le_mul_of_nonneg_right (show absI a ≤ 2000000000000 / absI b by omega) (show 0 ≤ absI b by omega)
    have h3 := Int.ediv_mul_le 2000000000000 (show absI b ≠ 0 by omega)
    omega
  rw [absI_nat, absI_nat, ← Int.natCast_mul, ← Int.natAbs_mul] at h1
  omega
theorem absI_ge_one {b : Int} (h : b ≠ 0) : 1 ≤ absI b := by unfold absI; split <;> omega
theorem pp_coef {s a b : Int} (hs : isCoef s = true) (h : ppB s a b = true) : isCoef (ppV s a b) = true := by
  by_cases h0 : a = 0 ∨ b = 0
  · rw [(pp_zero h0).2]; exact hs
  · by_cases hb : 2000000000000 / absI b < absI a
    · rw [(pp_big h0 hb).1] at h; cases h
    · rw [(pp_go h0 hb).1] at h; rw [(pp_go h0 hb).2]; exact h

/-- What is done from coefficient k of q on, r coefficients. -/
def resP : Option (List Int) → List Int × Int
  | none => ([], 3)
  | some out => (out, 0)
theorem prodP_zero {p q : List Int} (h : p.length = 0 ∨ q.length = 0) : prodP p q = ([], 0) := by unfold prodP; rw [if_pos h]
theorem prodP_long {p q : List Int} (h : ¬ (p.length = 0 ∨ q.length = 0)) (h2 : 2001 < p.length + q.length - 1) : prodP p q = ([], 3) := by unfold prodP; rw [if_neg h, if_pos h2]
theorem prodP_run {p q : List Int} (h : ¬ (p.length = 0 ∨ q.length = 0)) (h2 : ¬ 2001 < p.length + q.length - 1) : prodP p q = resP (prOut p q q.length 0 (List.replicate (p.length + q.length - 1) 0)) := by
  unfold prodP; rw [if_neg h, if_neg h2]
  cases prOut p q q.length 0 (List.replicate (p.length + q.length - 1) 0) <;> rfl
theorem prOut_zero {p q : List Int} {k : Nat} (r : Nat) (out : List Int) (h : gx q k = 0) : prOut p q (r + 1) k out = prOut p q r (k + 1) out := by
  rw [prOut, if_pos h]
theorem prOut_go {p q : List Int} {k : Nat} (r : Nat) (out : List Int) (h : gx q k ≠ 0) : prOut p q (r + 1) k out = (prIn (gx q k) k p p.length 0 out).bind (prOut p q r (k + 1)) := by
  rw [prOut, if_neg h]
  cases prIn (gx q k) k p p.length 0 out <;> rfl
theorem prIn_none {c : Int} {k i : Nat} {p : List Int} (r : Nat) (out : List Int) (h : ppB (gx out (i + k)) (gx p i) c = false) : prIn c k p (r + 1) i out = none := by
  rw [prIn, pp_none h]
theorem prIn_some {c : Int} {k i : Nat} {p : List Int} (r : Nat) (out : List Int) (h : ppB (gx out (i + k)) (gx p i) c = true) : prIn c k p (r + 1) i out = prIn c k p r (i + 1) (out.set (i + k) (ppV (gx out (i + k)) (gx p i) c)) := by
  rw [prIn, pp_some h]
theorem coef_set {out : List Int} {q : Nat} {u : Int} (h : ∀ j, isCoef (gx out j) = true) (hu : isCoef u = true) : ∀ j, isCoef (gx (out.set q u) j) = true := by
  intro j
  by_cases hj : j < out.length
  · rw [gx_eq _ _ (by simpa using hj), List.getElem_set]
    split
    · exact hu
    · rw [← gx_eq out j hj]; exact h j
  · rw [gx_out _ _ (by simp; omega)]; rfl
theorem coef_zeros (N : Nat) : ∀ j, isCoef (gx (List.replicate N 0) j) = true := by
  intro j
  by_cases hj : j < N
  · rw [gx_eq _ _ (by simpa using hj)]; simp [isCoef_zero]
  · rw [gx_out _ _ (by simp; omega)]; rfl
theorem prIn_len {c : Int} {k : Nat} {p : List Int} : ∀ (r i : Nat) (out out' : List Int), prIn c k p r i out = some out' → out'.length = out.length := by
  intro r
  induction r with
  | zero => intro i out out' h; simp [prIn] at h; rw [h]
  | succ r ih =>
    intro i out out' h
    cases hb : ppB (gx out (i + k)) (gx p i) c
    · rw [prIn_none r out hb] at h; cases h
    · rw [prIn_some r out hb] at h; have := ih _ _ _ h; simpa using this
theorem prOut_len {p q : List Int} : ∀ (r k : Nat) (out out' : List Int), prOut p q r k out = some out' → out'.length = out.length := by
  intro r
  induction r with
  | zero => intro k out out' h; simp [prOut] at h; rw [h]
  | succ r ih =>
    intro k out out' h
    by_cases h0 : gx q k = 0
    · rw [prOut_zero r out h0] at h; exact ih _ _ _ h
    · rw [prOut_go r out h0] at h
      cases e : prIn (gx q k) k p p.length 0 out with
      | none => rw [e] at h; cases h
      | some o => rw [e] at h; rw [ih _ _ _ h, prIn_len _ _ _ _ e]
theorem mulP_len (p q : List Int) : (mulP p q).1.length ≤ 1000000000 := by
  unfold mulP
  split
  · by_cases h : p.length = 0 ∨ q.length = 0
    · rw [prodP_zero h]; simp
    · by_cases h2 : 2001 < p.length + q.length - 1
      · rw [prodP_long h h2]; simp
      · rw [prodP_run h h2]
        cases e : prOut p q q.length 0 (List.replicate (p.length + q.length - 1) 0) with
        | none => simp [resP]
        | some o => have := prOut_len _ _ _ _ e; simp [resP] at this ⊢; omega
  · simp
end Go.Proofs.Ytogkblncdpbhnaa.Pl
