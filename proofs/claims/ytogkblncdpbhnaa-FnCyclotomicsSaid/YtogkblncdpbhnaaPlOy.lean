/-
  PLAIN LAWS, CHAPTER 2: the program's factors, step by step.
-/
import Derived.Test.YtogkblncdpbhnaaPlOA
namespace Go.Proofs.Ytogkblncdpbhnaa.Pl
open Go
set_option linter.unusedVariables false
theorem bne0 {a : Nat} (h : a ≠ 0) : (a == 0) = false := by simpa using h
theorem expG_no {f p n : Nat} (h : n % p ≠ 0) : expG f p n = (n, 0) := by
  cases f with
  | zero => rfl
  | succ f => show (bif n % p == 0 then _ else _) = _; rw [bne0 h]; rfl
theorem expG_yes {f p n : Nat} (h : n % p = 0) : expG (f + 1) p n = ((expG f p (n / p)).1, (expG f p (n / p)).2 + 1) := by
  show (bif n % p == 0 then _ else _) = _; rw [h]; rfl
theorem expG_le : ∀ (f p n : Nat), (expG f p n).1 ≤ n
  | 0, _, _ => Nat.le_refl _
  | f + 1, p, n => by
    by_cases h : n % p = 0
    · rw [expG_yes h]; exact Nat.le_trans (expG_le f p (n / p)) (Nat.div_le_self ..)
    · rw [expG_no h]; exact Nat.le_refl _
theorem half_lt {f p n : Nat} (hp : 2 ≤ p) (h : n < 2 ^ (f + 1)) : n / p < 2 ^ f := by
  have h1 : n / p ≤ n / 2 := Nat.div_le_div_left hp (by omega)
  rw [Nat.pow_succ] at h; omega
theorem facG_one (f p : Nat) : facG f p 1 = [] := by cases f <;> rfl
theorem ble_f {a b : Nat} (h : ¬ a ≤ b) : Nat.ble a b = false := by
  rcases e : Nat.ble a b with _ | _
  · rfl
  · exact absurd (Nat.ble_eq.mp e) h
theorem ble_t {a b : Nat} (h : a ≤ b) : Nat.ble a b = true := Nat.ble_eq.mpr h
theorem facG_last {f p n : Nat} (h1 : 1 < n) (h2 : n < p * p) : facG (f + 1) p n = [(n, 1)] := by
  show (bif Nat.ble n 1 then _ else bif Nat.ble (n + 1) (p * p) then _ else _) = _
  rw [ble_f (by omega), ble_t (show n + 1 ≤ p * p from h2)]; rfl
theorem facG_go {f p n : Nat} (h1 : 1 < n) (h2 : ¬ n < p * p) : facG (f + 1) p n = bif (expG 12 p n).2 == 0 then facG f (p + 1) (expG 12 p n).1 else (p, (expG 12 p n).2) :: facG f (p + 1) (expG 12 p n).1 := by
  show (bif Nat.ble n 1 then _ else bif Nat.ble (n + 1) (p * p) then _ else _) = _
  rw [ble_f (by omega), ble_f (show ¬ n + 1 ≤ p * p from h2)]; rfl
theorem facG_skip {f p n : Nat} (h1 : 1 < n) (h2 : ¬ n < p * p) (h3 : (expG 12 p n).2 = 0) : facG (f + 1) p n = facG f (p + 1) (expG 12 p n).1 := by rw [facG_go h1 h2, h3]; rfl
theorem facG_take {f p n : Nat} (h1 : 1 < n) (h2 : ¬ n < p * p) (h3 : (expG 12 p n).2 ≠ 0) : facG (f + 1) p n = (p, (expG 12 p n).2) :: facG f (p + 1) (expG 12 p n).1 := by rw [facG_go h1 h2, bne0 h3]; rfl
/-- The number that the program tries next. -/
def nxP (p n : Nat) : Nat := if n < p * p then n else p
theorem expG_self {n : Nat} (h : 1 < n) : expG 12 n n = (1, 1) := by
  rw [expG_yes (Nat.mod_self n), Nat.div_self (by omega), expG_no (by rw [Nat.mod_eq_of_lt h]; omega)]
theorem expG_pos : ∀ (f p n : Nat), 1 ≤ n → 2 ≤ p → 1 ≤ (expG f p n).1
  | 0, _, _, h, _ => h
  | f + 1, p, n, h, hp => by
    by_cases hd : n % p = 0
    · rw [expG_yes hd]
      exact expG_pos f p (n / p) (Nat.div_pos (Nat.le_of_dvd h (Nat.dvd_of_mod_eq_zero hd)) (by omega)) hp
    · rw [expG_no hd]; exact h
/-- One round of the program's factors. -/
theorem facG_step {f p n : Nat} (h1 : 1 < n) (h2 : n ≤ 2000) (hp : 2 ≤ p) (hf : f + p = 52) (hp2 : p ≤ 45) :
    ∃ f', facG f p n = (if (expG 12 (nxP p n) n).2 = 0 then [] else [(nxP p n, (expG 12 (nxP p n) n).2)]) ++ facG f' (nxP p n + 1) (expG 12 (nxP p n) n).1 ∧
      ((expG 12 (nxP p n) n).1 = 1 ∨ (f' + (nxP p n + 1) = 52 ∧ nxP p n + 1 ≤ 45)) := by
  obtain ⟨g, rfl⟩ : ∃ g, f = g + 1 := ⟨f - 1, by omega⟩
  unfold nxP
  by_cases hpp : n < p * p
  · rw [if_pos hpp, expG_self h1]
    exact ⟨0, by rw [facG_last h1 hpp]; rfl, .inl rfl⟩
  · rw [if_neg hpp]
    have hp3 : p ≤ 44 := by
      rcases Nat.lt_or_ge p 45 with h | h
      · omega
      · have : 45 * 45 ≤ p * p := Nat.mul_le_mul h h
        omega
    refine ⟨g, ?_, .inr ⟨by omega, by omega⟩⟩
    by_cases he : (expG 12 p n).2 = 0
    · rw [if_pos he, facG_skip h1 hpp he]; rfl
    · rw [if_neg he, facG_take h1 hpp he]; rfl
end Go.Proofs.Ytogkblncdpbhnaa.Pl
