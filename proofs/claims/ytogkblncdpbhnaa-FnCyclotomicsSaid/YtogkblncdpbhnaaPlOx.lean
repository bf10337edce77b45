/-
  PLAIN LAWS, CHAPTER 2: the reference's way to the cyclotomic polynomial.
-/
import Derived.Test.YtogkblncdpbhnaaPlOA
import Derived.Test.YtogkblncdpbhnaaPlO1
import Derived.Test.YtogkblncdpbhnaaPlO2
import Derived.Test.YtogkblncdpbhnaaPlO3
import Derived.Test.YtogkblncdpbhnaaPlO4
import Derived.Test.YtogkblncdpbhnaaPlO5
namespace Go.Proofs.Ytogkblncdpbhnaa.Pl
open Go
set_option linter.unusedVariables false
theorem chk_all (n : Nat) (h1 : 1 ≤ n) (h2 : n ≤ 2000) : chkA n = true ∧ chkP n = true := by
  rcases Nat.lt_or_ge n 701 with h | h
  · exact chkO1 n (by omega) (by omega)
  rcases Nat.lt_or_ge n 1101 with h3 | h3
  · exact chkO2 n (by omega) (by omega)
  rcases Nat.lt_or_ge n 1401 with h4 | h4
  · exact chkO3 n (by omega) (by omega)
  rcases Nat.lt_or_ge n 1701 with h5 | h5
  · exact chkO4 n (by omega) (by omega)
  exact chkO5 n (by omega) (by omega)
theorem totL_le : ∀ (l : List (Nat × Nat)) (o : Nat), totL o l ≤ o
  | [], o => Nat.le_refl _
  | (p, e) :: r, o => by
    have h1 := totL_le r (o / p * (p - 1))
    have h2 : o / p * (p - 1) ≤ o / p * p := Nat.mul_le_mul_left _ (by omega)
    have h3 := Nat.div_mul_le_self o p
    show totL (o / p * (p - 1)) r ≤ o
    omega
theorem totN_le (n : Nat) : totN n ≤ n := totL_le _ _
def cInv (n0 n p : Nat) : Prop := 1 ≤ n ∧ n0 % n = 0 ∧ (∀ e, 2 ≤ e → e < p → n % e ≠ 0) ∧ Nat.gcd (n0 / n) n = 1
def cInn (n0 n p : Nat) : Prop := 1 ≤ n ∧ n0 % n = 0 ∧ (∀ e, 2 ≤ e → e < p → n % e ≠ 0) ∧ ∃ m e, n0 / n = m * p ^ (e + 1) ∧ Nat.gcd m n = 1
theorem cInv_start (n0 : Nat) (h : 1 ≤ n0) : cInv n0 n0 2 := ⟨h, Nat.mod_self _, fun e h1 h2 => by omega, by rw [Nat.div_self (by omega)]; exact Nat.gcd_one_left _⟩
theorem cInv_le {n0 n p : Nat} (h : cInv n0 n p) (hn : 1 < n) : p ≤ n := by
  rcases Nat.lt_or_ge n p with h1 | h1
  · exact absurd (Nat.mod_self n) (h.2.2.1 n (by omega) h1)
  · exact h1
section
variable {n0 n p : Nat} (h0 : 1 ≤ n0) (h2 : n0 ≤ 2000) (hp : 2 ≤ p) (hd : n % p = 0)
include h0 h2 hp hd
/-- What both kinds of step need. -/
theorem c_step (hn : 1 ≤ n) (hm : n0 % n = 0) (hs : ∀ e, 2 ≤ e → e < p → n % e ≠ 0) :
    1 ≤ n / p ∧ n0 % (n / p) = 0 ∧ (∀ e, 2 ≤ e → e < p → n / p % e ≠ 0) ∧ n0 / (n / p) = n0 / n * p ∧ 1 ≤ n0 / n ∧ n0 / n * p ≤ 2000 ∧ n0 / n * p / p = n0 / n ∧ chkB (n0 / n * p) p = true := by
  have e1 := Nat.div_add_mod n p
  rw [hd, Nat.add_zero] at e1
  have e2 := Nat.div_add_mod n0 n
  rw [hm, Nat.add_zero] at e2
  have hk : 1 ≤ n / p := by
    rcases Nat.eq_zero_or_pos (n / p) with h | h
    · rw [h, Nat.mul_zero] at e1; omega
    · exact h
  have hq : 1 ≤ n0 / n := by
    rcases Nat.eq_zero_or_pos (n0 / n) with h | h
    · rw [h, Nat.mul_zero] at e2; omega
    · exact h
  have e3 : n0 = (n / p) * (n0 / n * p) := by
    rw [Nat.mul_comm (n0 / n) p, ← Nat.mul_assoc, Nat.mul_comm (n / p) p, e1, e2]
  have e4 : n0 / (n / p) = n0 / n * p := by
    generalize n0 / n * p = z at *
    rw [e3]; exact Nat.mul_div_cancel_left _ hk
  have hN : n0 / n * p ≤ n0 := by
    have : 1 * (n0 / n * p) ≤ (n / p) * (n0 / n * p) := Nat.mul_le_mul_right _ hk
    omega
  have hN1 : p ≤ n0 / n * p := by
    have : 1 * p ≤ n0 / n * p := Nat.mul_le_mul_right _ hq
    omega
  refine ⟨hk, ?_, fun e he1 he2 h => ?_, e4, hq, by omega, Nat.mul_div_cancel _ (by omega), ?_⟩
  · generalize n0 / n * p = z at *
    rw [e3]; exact Nat.mul_mod_right _ _
  · refine hs e he1 he2 ?_
    rw [← e1, Nat.mul_mod, h, Nat.mul_zero, Nat.zero_mod]
  · refine chkP_get (chk_all _ (by omega) (by omega)).2 hp hN1 (Nat.mul_mod_left _ _) fun e he1 he2 h => ?_
    refine hs e he1 he2 ?_
    rw [← e1, Nat.mul_mod, h, Nat.zero_mul, Nat.zero_mod]
theorem c_first (h : cInv n0 n p) : qwF (spread (phi (n0 / n)) p) (phi (n0 / n)) = (phi (n0 / (n / p)), true) ∧ cInn n0 (n / p) p := by
  obtain ⟨hn, hm, hs, hg⟩ := h
  obtain ⟨a1, a2, a3, a4, a5, a6, a7, a8⟩ := c_step h0 h2 hp hd hn hm hs
  have hnd : n0 / n % p ≠ 0 := fun e => by
    have h1 : p ∣ Nat.gcd (n0 / n) n := Nat.dvd_gcd (Nat.dvd_of_mod_eq_zero e) (Nat.dvd_of_mod_eq_zero hd)
    rw [hg] at h1
    have := Nat.le_of_dvd (by omega) h1
    omega
  have hle : n0 / n ≤ n0 / n * p := Nat.le_mul_of_pos_right _ (by omega)
  refine ⟨?_, a1, a2, a3, n0 / n, 0, by rw [a4, Nat.zero_add, Nat.pow_one], ?_⟩
  · rw [a4]
    exact qw_first (chk_all _ a5 (by omega)).1 (chk_all _ (by omega) a6).1 hp a7 a8 hnd (by have := totN_le (n0 / n * p); omega)
  · have : Nat.gcd (n0 / n) (n / p) ∣ Nat.gcd (n0 / n) n := Nat.gcd_dvd_gcd_of_dvd_right _ (Nat.div_dvd_of_dvd (Nat.dvd_of_mod_eq_zero hd))
    rw [hg] at this
    exact Nat.dvd_one.1 this
theorem c_again (h : cInn n0 n p) : phi (n0 / (n / p)) = spread (phi (n0 / n)) p ∧ cInn n0 (n / p) p := by
  obtain ⟨hn, hm, hs, m, e, he, hg⟩ := h
  obtain ⟨a1, a2, a3, a4, a5, a6, a7, a8⟩ := c_step h0 h2 hp hd hn hm hs
  have hnd : n0 / n % p = 0 := by rw [he, Nat.pow_succ, ← Nat.mul_assoc]; exact Nat.mul_mod_left _ _
  have hle : n0 / n ≤ n0 / n * p := Nat.le_mul_of_pos_right _ (by omega)
  refine ⟨?_, a1, a2, a3, m, e + 1, by rw [a4, he, Nat.pow_succ p (e + 1), Nat.mul_assoc], ?_⟩
  · rw [a4]
    exact phi_again (chk_all _ a5 (by omega)).1 (chk_all _ (by omega) a6).1 hp a7 a8 hnd
  · have : Nat.gcd m (n / p) ∣ Nat.gcd m n := Nat.gcd_dvd_gcd_of_dvd_right _ (Nat.div_dvd_of_dvd (Nat.dvd_of_mod_eq_zero hd))
    rw [hg] at this
    exact Nat.dvd_one.1 this
end
theorem c_skip {n0 n p : Nat} (hd : n % p ≠ 0) (h : cInv n0 n p) : cInv n0 n (p + 1) :=
  ⟨h.1, h.2.1, fun e h1 h2 => by
    rcases Nat.lt_or_eq_of_le (Nat.le_of_lt_succ h2) with h3 | rfl
    · exact h.2.2.1 e h1 h3
    · exact hd, h.2.2.2⟩
theorem c_done {n0 n p : Nat} (hp : 2 ≤ p) (hd : n % p ≠ 0) (h : cInn n0 n p) : cInv n0 n (p + 1) := by
  obtain ⟨hn, hm, hs, m, e, he, hg⟩ := h
  have hs2 : ∀ e, 2 ≤ e → e < p + 1 → n % e ≠ 0 := fun e h1 h2 => by
    rcases Nat.lt_or_eq_of_le (Nat.le_of_lt_succ h2) with h3 | rfl
    · exact hs e h1 h3
    · exact hd
  have hgp : Nat.gcd p n = 1 := by
    have h1 := Nat.gcd_dvd_left p n
    have h3 := Nat.gcd_dvd_right p n
    have h4 := Nat.le_of_dvd (by omega) h1
    have h5 : 0 < Nat.gcd p n := Nat.gcd_pos_of_pos_left _ (by omega)
    rcases Nat.lt_or_ge (Nat.gcd p n) 2 with h6 | h6
    · omega
    · exact absurd (Nat.mod_eq_zero_of_dvd h3) (hs2 _ h6 (by omega))
  refine ⟨hn, hm, hs2, ?_⟩
  rw [he]
  have c1 : Nat.Coprime p n := hgp
  have c2 : Nat.Coprime m n := hg
  exact Nat.Coprime.mul_left c2 (Nat.Coprime.pow_left _ c1)
end Go.Proofs.Ytogkblncdpbhnaa.Pl
