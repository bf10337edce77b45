/-
  PLAIN LAWS, CHAPTER 2: totients, by the kernel.
-/
import Derived.Test.YtoagjlcobeimfaaPlOr
namespace Go.Proofs.Ytoagjlcobeimfaa.Pl
open Go
set_option linter.unusedVariables false
/-- The reference's totient, step by step. -/
def t2 : Nat → Nat → Nat → Nat → Option Nat
  | 0, _, out, rest => bif Nat.ble rest 1 then some out else none
  | f + 1, p, out, rest => bif Nat.ble rest 1 then some out else bif Nat.beq (rest % p) 0 then t2 f (p + 1) (out / p * (p - 1)) (expG 12 p rest).1 else t2 f (p + 1) out rest
def okN (o : Option Nat) (k : Nat) : Bool := match o with | some a => Nat.beq a k && Nat.ble 1 k | none => false
def chkT (lo : Nat) : Nat → Bool
  | 0 => true
  | k + 1 => cond (okN (t2 1000 2 (lo + k) (lo + k)) (totN (lo + k))) (chkT lo k) false
def chkU (lo : Nat) : Nat → Bool
  | 0 => true
  | k + 1 => cond (Nat.ble 51 (totN (lo + k))) (chkU lo k) false
theorem chkT_get {lo : Nat} : ∀ {k : Nat}, chkT lo k = true → ∀ j, j < k → t2 1000 2 (lo + j) (lo + j) = some (totN (lo + j)) ∧ 1 ≤ totN (lo + j)
  | 0, _, j, hj => absurd hj (Nat.not_lt_zero _)
  | k + 1, h, j, hj => by
    have h' : cond (okN (t2 1000 2 (lo + k) (lo + k)) (totN (lo + k))) (chkT lo k) false = true := h
    cases h1 : okN (t2 1000 2 (lo + k) (lo + k)) (totN (lo + k)) <;> rw [h1] at h'
    · cases h'
    · rcases Nat.lt_or_eq_of_le (Nat.le_of_lt_succ hj) with hl | rfl
      · exact chkT_get (k := k) h' j hl
      · unfold okN at h1
        split at h1
        · rename_i a e
          rw [Bool.and_eq_true] at h1
          rw [e, Nat.eq_of_beq_eq_true h1.1]
          exact ⟨rfl, Nat.le_of_ble_eq_true h1.2⟩
        · cases h1
theorem chkU_get {lo : Nat} : ∀ {k : Nat}, chkU lo k = true → ∀ j, j < k → 51 ≤ totN (lo + j)
  | 0, _, j, hj => absurd hj (Nat.not_lt_zero _)
  | k + 1, h, j, hj => by
    have h' : cond (Nat.ble 51 (totN (lo + k))) (chkU lo k) false = true := h
    cases h1 : Nat.ble 51 (totN (lo + k)) <;> rw [h1] at h'
    · cases h'
    · rcases Nat.lt_or_eq_of_le (Nat.le_of_lt_succ hj) with hl | rfl
      · exact chkU_get (k := k) h' j hl
      · exact Nat.le_of_ble_eq_true h1
set_option maxRecDepth 100000 in
theorem chkT1 : chkT 1 250 = true := by decide +kernel
set_option maxRecDepth 100000 in
theorem chkT2 : chkT 251 250 = true := by decide +kernel
set_option maxRecDepth 100000 in
theorem chkT3 : chkT 501 250 = true := by decide +kernel
set_option maxRecDepth 100000 in
theorem chkT4 : chkT 751 250 = true := by decide +kernel
set_option maxRecDepth 100000 in
theorem chkU1 : chkU 1001 1000 = true := by decide +kernel
theorem t2_all (n : Nat) (h1 : 1 ≤ n) (h2 : n ≤ 1000) : t2 1000 2 n n = some (totN n) ∧ 1 ≤ totN n := by
  rcases Nat.lt_or_ge n 251 with h | h
  · have := chkT_get chkT1 (n - 1) (by omega); rwa [show 1 + (n - 1) = n by omega] at this
  · rcases Nat.lt_or_ge n 501 with h' | h'
    · have := chkT_get chkT2 (n - 251) (by omega); rwa [show 251 + (n - 251) = n by omega] at this
    · rcases Nat.lt_or_ge n 751 with h3 | h3
      · have := chkT_get chkT3 (n - 501) (by omega); rwa [show 501 + (n - 501) = n by omega] at this
      · have := chkT_get chkT4 (n - 751) (by omega); rwa [show 751 + (n - 751) = n by omega] at this
theorem totN_big (n : Nat) (h1 : 1001 ≤ n) (h2 : n ≤ 2000) : 51 ≤ totN n := by
  have := chkU_get chkU1 (n - 1001) (by omega); rwa [show 1001 + (n - 1001) = n by omega] at this
theorem totN_pos (n : Nat) (h1 : 1 ≤ n) (h2 : n ≤ 2000) : 1 ≤ totN n := by
  rcases Nat.lt_or_ge n 1001 with h | h
  · exact (t2_all n h1 (by omega)).2
  · have := totN_big n h h2; omega
/-- Behind 1000 nothing is found. -/
theorem cfR_big : ∀ (f n : Nat) (rest : List Int) (rows : List (Nat × Nat)), 1001 ≤ n → n + f ≤ 2001 → rest.length ≤ 51 → cfR f n rest rows = (rest, rows)
  | 0, _, _, _, _, _, _ => rfl
  | f + 1, n, rest, rows, h1, h2, h3 => by
    by_cases h : rest.length ≤ 1
    · exact cfR_stop h
    · have e : cfD n rest = (rest, 0) := by
        unfold cfD; rw [if_neg (by have := totN_big n h1 (by omega); omega)]
      rw [cfR_go h, e]
      exact cfR_big f (n + 1) rest rows (by omega) (by omega) h3
theorem CfI.many {p : List Int} : ∀ (f n : Nat) (rest : List Int) (rows : List (Nat × Nat)), CfI p rest rows → 1 ≤ n → n + f ≤ 2001 → CfI p (cfR f n rest rows).1 (cfR f n rest rows).2
  | 0, _, _, _, h, _, _ => h
  | f + 1, n, rest, rows, h, h1, h2 => by
    by_cases hr : rest.length ≤ 1
    · rw [cfR_stop hr]; exact h
    · rw [cfR_go hr]
      exact CfI.many f (n + 1) _ _ (h.step (totN_pos n h1 (by omega))) (by omega) (by omega)
theorem CfI.start {p : List Int} (h : 1 ≤ p.length) : CfI p p [] := ⟨by simp, h, rfl⟩
theorem cfR_two {p : List Int} (h : 1 ≤ p.length) (h2 : p.length ≤ 51) : cfR 2000 1 p [] = cfR 1000 1 p [] := by
  rw [show 2000 = 1000 + 1000 from rfl, cfR_add]
  have := CfI.many 1000 1 p [] (CfI.start h) (Nat.le_refl _) (by omega)
  rw [cfR_big 1000 _ _ _ (by omega) (by omega) (by have := this.len; omega)]
end Go.Proofs.Ytoagjlcobeimfaa.Pl
