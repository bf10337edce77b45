/-
  PLAIN LAWS, CHAPTER 2: the polynomials of n and of n / p.
-/
import Derived.Test.YtoagjlcobeimfaaPlOu
namespace Go.Proofs.Ytoagjlcobeimfaa.Pl
open Go
set_option linter.unusedVariables false
set_option linter.unusedSectionVars false
/-! ### the kernel's answers -/
theorem prm_aux (p : Nat) (h : ∀ e, 2 ≤ e → e < p → p % e ≠ 0) : ∀ k : Nat, (Nat.rec true (fun k ih => cond (Nat.blt k 1) true (cond (Nat.blt (Nat.succ k) p) (cond (Nat.beq (Nat.mod p (Nat.succ k)) 0) false ih) ih)) k : Bool) = true
  | 0 => rfl
  | k + 1 => by
    have ih := prm_aux p h k
    show cond (Nat.blt k 1) true (cond (Nat.blt (Nat.succ k) p) (cond (Nat.beq (Nat.mod p (Nat.succ k)) 0) false _) _) = true
    rcases h1 : Nat.blt k 1 with _ | _
    · rcases h2 : Nat.blt (Nat.succ k) p with _ | _
      · exact ih
      · rcases h3 : Nat.beq (Nat.mod p (Nat.succ k)) 0 with _ | _
        · exact ih
        · have a1 : ¬ k < 1 := fun e => by have : Nat.blt k 1 = true := Nat.ble_eq.mpr e; rw [h1] at this; cases this
          have a2 : k + 1 < p := Nat.ble_eq.mp h2
          exact absurd (Eq.mp Nat.beq_eq h3) (h (k + 1) (by omega) a2)
    · rfl
theorem prmG_of {p : Nat} (h : ∀ e, 2 ≤ e → e < p → p % e ≠ 0) : prmG p = true := prm_aux p h 44
theorem chkP_aux (n : Nat) : ∀ k : Nat, (Nat.rec true (fun k ih => cond (Nat.blt k 1) true (cond (Nat.beq (Nat.mod n (Nat.succ k)) 0) (cond (prmG (Nat.succ k)) (cond (chkB n (Nat.succ k)) ih false) ih) ih)) k : Bool) = true →
    ∀ p, 2 ≤ p → p ≤ k → n % p = 0 → prmG p = true → chkB n p = true
  | 0, _, p, h2, h3, _, _ => by omega
  | k + 1, h, p, h2, h3, h4, h5 => by
    have ih := chkP_aux n k
    have h' : cond (Nat.blt k 1) true (cond (Nat.beq (Nat.mod n (Nat.succ k)) 0) (cond (prmG (Nat.succ k)) (cond (chkB n (Nat.succ k)) _ false) _) _) = true := h
    rcases h1 : Nat.blt k 1 with _ | _ <;> rw [h1] at h'
    · rcases Nat.lt_or_eq_of_le h3 with h6 | rfl
      · rcases h7 : Nat.beq (Nat.mod n (Nat.succ k)) 0 with _ | _ <;> rw [h7] at h'
        · exact ih h' p h2 (by omega) h4 h5
        · rcases h8 : prmG (Nat.succ k) with _ | _ <;> rw [h8] at h'
          · exact ih h' p h2 (by omega) h4 h5
          · rcases h9 : chkB n (Nat.succ k) with _ | _ <;> rw [h9] at h'
            · cases h'
            · exact ih h' p h2 (by omega) h4 h5
      · have h7 : Nat.beq (Nat.mod n (Nat.succ k)) 0 = true := Eq.mpr Nat.beq_eq h4
        rw [h7, h5] at h'
        rcases h9 : chkB n (k + 1) with _ | _
        · have h9' : chkB n (Nat.succ k) = false := h9
          rw [h9'] at h'; cases h'
        · rfl
    · have : k < 1 := Nat.ble_eq.mp h1
      omega
theorem chkP_get {n p : Nat} (h : chkP n = true) (h2 : 2 ≤ p) (h3 : p ≤ n) (h4 : n % p = 0) (h5 : ∀ e, 2 ≤ e → e < p → p % e ≠ 0) : chkB n p = true :=
  chkP_aux n n h p h2 h3 h4 (prmG_of h5)
/-! ### t^k in place of t -/
def sp (f : Nat → Int) (k i : Nat) : Int := if i % k = 0 then f (i / k) else 0
theorem gx_spread (p : List Int) {k : Nat} (hk : 0 < k) (h0 : 0 < p.length) (i : Nat) : gx (spread p k) i = sp (gx p) k i := by
  have hl : (spread p k).length = (p.length - 1) * k + 1 := by unfold spread; rw [if_neg (by omega)]; simp
  by_cases hi : i < (p.length - 1) * k + 1
  · rw [gx_eq _ _ (by omega)]
    unfold spread sp
    simp [show p.length ≠ 0 by omega]
  · rw [gx_out _ _ (by omega)]
    unfold sp
    by_cases hm : i % k = 0
    · rw [if_pos hm, gx_out]
      have h1 := Nat.div_add_mod i k
      rw [hm, Nat.add_zero] at h1
      rcases Nat.lt_or_ge (i / k) p.length with h2 | h2
      · have : k * (i / k) ≤ k * (p.length - 1) := Nat.mul_le_mul_left _ (by omega)
        rw [h1, Nat.mul_comm] at this
        omega
      · exact h2
    · rw [if_neg hm]
theorem vl_sp (f : Nat → Int) (X : Int) {k : Nat} (hk : 0 < k) : ∀ n : Nat, vl (sp f k) X (n * k + 1) = vl f (X ^ k) (n + 1)
  | 0 => by simp [vl, sm, sp]
  | n + 1 => by
    have ih := vl_sp f X hk n
    have e : (n + 1) * k + 1 = ((n * k + 1) + (k - 1)) + 1 := by rw [Nat.add_mul, Nat.one_mul]; omega
    have h1 : vl (sp f k) X ((n * k + 1) + (k - 1)) = vl (sp f k) X (n * k + 1) := sm_more _ _ _ fun i hi hi2 => by
      have : i % k ≠ 0 := fun hm => by
        have h1 := Nat.div_add_mod i k
        rw [hm, Nat.add_zero] at h1
        have h3 : n < i / k := by
          rcases Nat.lt_or_ge n (i / k) with h | h
          · exact h
          · have : k * (i / k) ≤ k * n := Nat.mul_le_mul_left _ h
            rw [h1, Nat.mul_comm] at this; omega
        have : k * (n + 1) ≤ k * (i / k) := Nat.mul_le_mul_left _ h3
        rw [h1, Nat.mul_add, Nat.mul_comm] at this; omega
      unfold sp; rw [if_neg this, Int.zero_mul]
    have h2 : (n * k + 1) + (k - 1) = k * (n + 1) := by rw [Nat.mul_add, Nat.mul_comm k n]; omega
    rw [e]
    show vl (sp f k) X ((n * k + 1) + (k - 1)) + sp f k ((n * k + 1) + (k - 1)) * X ^ ((n * k + 1) + (k - 1)) = vl f (X ^ k) (n + 1) + f (n + 1) * (X ^ k) ^ (n + 1)
    rw [h1, ih, h2]
    have h3 : sp f k (k * (n + 1)) = f (n + 1) := by unfold sp; rw [if_pos (Nat.mul_mod_right _ _), Nat.mul_div_cancel_left _ hk]
    rw [h3, Int.pow_mul]
/-! ### products -/
theorem cp_bd {P q : List Int} (h1 : ∀ i, -128 ≤ gx P i ∧ gx P i ≤ 128) (h2 : ∀ i, -128 ≤ gx q i ∧ gx q i ≤ 128) (j : Nat) : ∀ n : Nat, -(16384 * (n : Int)) ≤ cp P q n j ∧ cp P q n j ≤ 16384 * (n : Int)
  | 0 => by show _ ≤ (0 : Int) ∧ (0 : Int) ≤ _; omega
  | n + 1 => by
    have ih := cp_bd h1 h2 j n
    rw [cp_succ]
    have : -16384 ≤ (if n ≤ j then gx P n * gx q (j - n) else 0) ∧ (if n ≤ j then gx P n * gx q (j - n) else 0) ≤ 16384 := by
      split
      · have a := h1 n; have b := h2 (j - n)
        generalize gx P n = x at *; generalize gx q (j - n) = y at *
        have c1 : (x + 128) * (y + 128) ≥ 0 := Int.mul_nonneg (by omega) (by omega)
        have c2 : (128 - x) * (128 - y) ≥ 0 := Int.mul_nonneg (by omega) (by omega)
        have c3 : (x + 128) * (128 - y) ≥ 0 := Int.mul_nonneg (by omega) (by omega)
        have c4 : (128 - x) * (y + 128) ≥ 0 := Int.mul_nonneg (by omega) (by omega)
        simp only [Int.add_mul, Int.mul_add, Int.sub_mul, Int.mul_sub] at c1 c2 c3 c4
        omega
      · omega
    omega
theorem cp_sup (P q : List Int) (n j : Nat) (h : n + q.length ≤ j + 1) : cp P q n j = 0 := by
  unfold cp
  refine sm_zero n fun i hi => ?_
  rw [if_pos (by omega), gx_out q _ (by omega), Int.mul_zero]
theorem list_of_top {a b : List Int} {k l : Nat} (ha : a.length = k + 1) (hb : b.length = l + 1) (ha1 : gx a k = 1) (hb1 : gx b l = 1) (h : ∀ j, gx a j = gx b j) : a = b := by
  have hl : k = l := by
    rcases Nat.lt_trichotomy k l with h1 | h1 | h1
    · rw [← h, gx_out a l (by omega)] at hb1; omega
    · exact h1
    · rw [h, gx_out b k (by omega)] at ha1; omega
  exact gx_ext _ _ (by omega) fun k _ => h k
section
variable {n m p : Nat} (hm : chkA m = true) (hn : chkA n = true) (hp : 2 ≤ p) (hnm : n / p = m) (hb : chkB n p = true)
include hm hn hp hnm hb
theorem chkB_parts : divG m (TT ^ p) = true ∧ (m % p = 0 → valG n TT = valG m (TT ^ p)) ∧ (m % p ≠ 0 → valG m TT * valG n TT = valG m (TT ^ p)) := by
  unfold chkB at hb
  rw [hnm, Bool.and_eq_true] at hb
  obtain ⟨h1, h2⟩ := hb
  refine ⟨h1, fun h => ?_, fun h => ?_⟩
  · rw [show Nat.beq (Nat.mod m p) 0 = true from Eq.mpr Nat.beq_eq h] at h2
    exact Eq.mp Nat.beq_eq h2
  · rcases h3 : Nat.beq (Nat.mod m p) 0 with _ | _
    · rw [h3] at h2; exact Eq.mp Nat.beq_eq h2
    · exact absurd (Eq.mp Nat.beq_eq h3) h
theorem spread_top : (spread (phi m) p).length = totN m * p + 1 ∧ gx (spread (phi m) p) (totN m * p) = 1 := by
  have hl : (phi m).length = totN m + 1 := phi_len m
  refine ⟨by unfold spread; rw [if_neg (by omega), hl]; simp, ?_⟩
  rw [gx_spread _ (by omega) (by omega)]
  unfold sp
  rw [if_pos (Nat.mul_mod_left _ _), Nat.mul_div_cancel _ (by omega), phi_top hm]
theorem spread_bd (i : Nat) : -128 ≤ gx (spread (phi m) p) i ∧ gx (spread (phi m) p) i ≤ 128 := by
  rw [gx_spread _ (by omega) (by rw [phi_len]; omega)]
  unfold sp
  split
  · have := phi_bd hm (i / p); omega
  · omega
theorem spread_val (K : Nat) (hK : totN m * p + 1 ≤ K) : vl (gx (spread (phi m) p)) (TT : Int) K = (valG m (TT ^ p) : Int) := by
  have h1 : vl (gx (spread (phi m) p)) (TT : Int) K = vl (gx (spread (phi m) p)) (TT : Int) (totN m * p + 1) := by
    have e : K = (totN m * p + 1) + (K - (totN m * p + 1)) := by omega
    rw [e]; exact sm_more _ _ _ fun j hj _ => by rw [gx_out _ _ (by rw [(spread_top hm hn hp hnm hb).1]; exact hj), Int.zero_mul]
  have h2 : vl (gx (spread (phi m) p)) (TT : Int) (totN m * p + 1) = vl (sp (gx (phi m)) p) (TT : Int) (totN m * p + 1) := vl_congr _ _ fun j _ => gx_spread _ (by omega) (by rw [phi_len]; omega) j
  have hX : 2 ≤ TT ^ p := by
    have : 2 ^ 1 ≤ TT ^ p := Nat.le_trans (Nat.pow_le_pow_left (by decide : 2 ≤ TT) 1) (Nat.pow_le_pow_right TT_pos (by omega))
    exact this
  have h3 := phi_at hm (TT ^ p) hX (chkB_parts hm hn hp hnm hb).1
  rw [h1, h2, vl_sp _ _ (by omega), ← h3, Int.natCast_pow]
theorem phi_vals (K : Nat) (hK : totN n + 1 ≤ K) : vl (gx (phi n)) (TT : Int) K = (valG n TT : Int) := by
  have e : K = (totN n + 1) + (K - (totN n + 1)) := by omega
  rw [← phi_val hn, e]; exact sm_more _ _ _ fun j hj _ => by rw [phi_sup n j hj, Int.zero_mul]
theorem phi_again (h0 : m % p = 0) : phi n = spread (phi m) p := by
  obtain ⟨s1, s2⟩ := spread_top hm hn hp hnm hb
  refine list_of_top (phi_len n) s1 (phi_top hn) s2 fun j => ?_
  have hv := (chkB_parts hm hn hp hnm hb).2.1 h0
  exact vl_inj (X := (TT : Int)) (C := 128) (by decide) (by decide) (totN n + 1 + (totN m * p + 1) + j + 1) _ _ (fun i _ => by have := phi_bd hn i; omega) (fun i _ => spread_bd hm hn hp hnm hb i)
    (by rw [phi_vals hm hn hp hnm hb _ (by omega), spread_val hm hn hp hnm hb _ (by omega), hv]) j (by omega)
theorem phi_first (h0 : m % p ≠ 0) (hl : totN n ≤ 2000) : (∀ j, gx (spread (phi m) p) j = cp (phi n) (phi m) (totN n + 1) j) ∧ totN m * p = totN n + totN m := by
  obtain ⟨s1, s2⟩ := spread_top hm hn hp hnm hb
  have hv := (chkB_parts hm hn hp hnm hb).2.2 h0
  have hcb := fun j => cp_bd (P := phi n) (q := phi m) (fun i => by have := phi_bd hn i; omega) (fun i => by have := phi_bd hm i; omega) j (totN n + 1)
  have e : ∀ j, gx (spread (phi m) p) j = cp (phi n) (phi m) (totN n + 1) j := fun j => by
    have hc := vl_cp (phi n) (phi m) (TT : Int) (by rw [phi_len]; omega) (totN n + 1) (totN n + 1 + (totN m * p + 1) + (totN m + 1) + j + 1) (by rw [phi_len]; omega)
    have hm1 : vl (gx (phi m)) (TT : Int) (phi m).length = (valG m TT : Int) := by rw [phi_len]; exact phi_val hm
    rw [hm1, phi_val hn] at hc
    exact vl_inj (X := (TT : Int)) (C := 32784384) (by decide) (by decide) (totN n + 1 + (totN m * p + 1) + (totN m + 1) + j + 1) _ _ (fun i _ => by have := spread_bd hm hn hp hnm hb i; omega) (fun i _ => by have := hcb i; omega)
      (by rw [spread_val hm hn hp hnm hb _ (by omega), hc, ← hv, Int.natCast_mul, Int.mul_comm]) j (by omega)
  refine ⟨e, ?_⟩
  have t1 : gx (spread (phi m) p) (totN n + totN m) = 1 := by
    have h := cp_top (phi n) (phi m) (totN n) (by rw [phi_len]; omega)
    have hl : (phi m).length - 1 = totN m := by rw [phi_len]; omega
    rw [e, show totN n + totN m = totN n + ((phi m).length - 1) by omega, h, hl, phi_top hn, phi_top hm]; rfl
  rcases Nat.lt_trichotomy (totN m * p) (totN n + totN m) with h | h | h
  · rw [gx_out _ _ (by omega)] at t1; omega
  · exact h
  · rw [e, cp_sup _ _ _ _ (by rw [phi_len]; omega)] at s2; omega
end
end Go.Proofs.Ytoagjlcobeimfaa.Pl
