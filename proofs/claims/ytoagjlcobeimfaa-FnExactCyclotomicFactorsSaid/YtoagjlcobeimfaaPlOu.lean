/-
  PLAIN LAWS, CHAPTER 2: the polynomial of n as a power series, and along the reference's way.
-/
import Derived.Test.YtoagjlcobeimfaaPlOt
namespace Go.Proofs.Ytoagjlcobeimfaa.Pl
open Go
set_option linter.unusedVariables false
/-! ### times 1 - t^d -/
def mN (d : Nat) (f : Nat → Int) (i : Nat) : Int := f i - (if d ≤ i then f (i - d) else 0)
def mNs (ds : List Nat) (f : Nat → Int) : Nat → Int := ds.foldr mN f
theorem mN_comm (d e : Nat) (f : Nat → Int) : mN d (mN e f) = mN e (mN d f) := by
  funext i
  unfold mN
  by_cases h1 : d ≤ i <;> by_cases h2 : e ≤ i
  · simp only [h1, h2, if_true]
    by_cases h3 : e ≤ i - d
    · have h4 : d ≤ i - e := by omega
      have h5 : i - d - e = i - e - d := by omega
      simp only [h3, h4, if_true, h5]; omega
    · have h4 : ¬ d ≤ i - e := by omega
      simp only [h3, h4, if_false]; omega
  · have h3 : ¬ e ≤ i - d := by omega
    simp only [h1, h2, h3, if_true, if_false]; omega
  · have h4 : ¬ d ≤ i - e := by omega
    simp only [h1, h2, h4, if_true, if_false]; omega
  · simp only [h1, h2, if_false]
theorem mNs_comm (d : Nat) : ∀ (ds : List Nat) (f : Nat → Int), mNs ds (mN d f) = mN d (mNs ds f)
  | [], f => rfl
  | e :: r, f => by
    show mN e (mNs r (mN d f)) = mN d (mN e (mNs r f))
    rw [mNs_comm d r f, mN_comm]
theorem mN_inj {d : Nat} (hd : 1 ≤ d) {f g : Nat → Int} (h : mN d f = mN d g) : f = g := by
  funext i
  induction i using Nat.strongRecOn with
  | ind i ih =>
    have e := congrFun h i
    unfold mN at e
    by_cases h1 : d ≤ i
    · rw [if_pos h1, if_pos h1, ih (i - d) (by omega)] at e; omega
    · rw [if_neg h1, if_neg h1] at e; omega
theorem mNs_inj : ∀ {ds : List Nat}, (∀ d ∈ ds, 1 ≤ d) → ∀ {f g : Nat → Int}, mNs ds f = mNs ds g → f = g
  | [], _, _, _, h => h
  | d :: r, hd, f, g, h => mNs_inj (fun x hx => hd x (List.mem_cons_of_mem _ hx)) (mN_inj (hd d (List.mem_cons_self ..)) h)
theorem mB_mN (d : Nat) (f : Nat → Int) (s : Int) : mB d (fun i => s * f i) = fun i => (-s) * mN d f i := by
  funext i
  unfold mB mN
  by_cases h : d ≤ i
  · simp only [h, if_true]; rw [Int.neg_mul, Int.mul_sub]; omega
  · simp only [h, if_false]; rw [Int.neg_mul, Int.sub_zero]; omega
/-- A sign. -/
def sgn1 : Nat → Int
  | 0 => 1
  | n + 1 => - sgn1 n
theorem sgn1_sq : ∀ n, sgn1 n = 1 ∨ sgn1 n = -1
  | 0 => .inl rfl
  | n + 1 => by have := sgn1_sq n; simp only [sgn1]; omega
theorem mBs_mNs (f : Nat → Int) : ∀ ds : List Nat, mBs ds f = fun i => sgn1 ds.length * mNs ds f i
  | [] => by funext i; show f i = 1 * f i; omega
  | d :: r => by
    show mB d (mBs r f) = _
    rw [mBs_mNs f r, mB_mN]; rfl
theorem dsG_succ (n s k : Nat) : dsG n s (k + 1) = cond (Nat.beq (Nat.mod n (k + 1)) 0) (cond (Nat.beq (mobC (Nat.div n (k + 1))) s) ((k + 1) :: dsG n s k) (dsG n s k)) (dsG n s k) := rfl
theorem dsG_in {n s k : Nat} (h : n % (k + 1) = 0) (h2 : mobC (n / (k + 1)) = s) : dsG n s (k + 1) = (k + 1) :: dsG n s k := by
  rw [dsG_succ, show Nat.beq (Nat.mod n (k + 1)) 0 = true from Eq.mpr Nat.beq_eq h, show Nat.beq (mobC (Nat.div n (k + 1))) s = true from Eq.mpr Nat.beq_eq h2]; rfl
theorem dsG_out {n s k : Nat} (h : n % (k + 1) ≠ 0 ∨ mobC (n / (k + 1)) ≠ s) : dsG n s (k + 1) = dsG n s k := by
  rw [dsG_succ]
  rcases h1 : Nat.beq (Nat.mod n (k + 1)) 0 with _ | _
  · rfl
  · rcases h2 : Nat.beq (mobC (Nat.div n (k + 1))) s with _ | _
    · rfl
    · rcases h with h | h
      · exact absurd (Eq.mp Nat.beq_eq h1) h
      · exact absurd (Eq.mp Nat.beq_eq h2) h
theorem dsG_pos (n s : Nat) : ∀ k, ∀ d ∈ dsG n s k, 1 ≤ d
  | 0, d, h => by cases h
  | k + 1, d, h => by
    by_cases h1 : n % (k + 1) = 0 ∧ mobC (n / (k + 1)) = s
    · rw [dsG_in h1.1 h1.2] at h
      rcases List.mem_cons.1 h with rfl | h
      · omega
      · exact dsG_pos n s k d h
    · rw [dsG_out (by by_cases h2 : n % (k + 1) = 0; exact .inr fun e => h1 ⟨h2, e⟩; exact .inl h2)] at h
      exact dsG_pos n s k d h
/-- The series that the program makes is the polynomial. -/
theorem series_phi {n : Nat} (h : chkA n = true) (hn : 2 ≤ n) {f : Nat → Int} (hf : mNs (dsG n 2 n) f = mNs (dsG n 1 n) one) : f = gx (phi n) := by
  have e := phi_mul h
  have hl := (chkA_parts h).2.2.2.2.2
  have hl' : (dsG n 1 n).length = (dsG n 2 n).length := by omega
  rw [mBs_mNs, mBs_mNs, hl'] at e
  have hs := sgn1_sq (dsG n 2 n).length
  refine mNs_inj (dsG_pos n 2 n) ?_
  rw [hf]
  funext i
  have this : sgn1 (dsG n 2 n).length * mNs (dsG n 2 n) (gx (phi n)) i = sgn1 (dsG n 2 n).length * mNs (dsG n 1 n) one i := e i
  rcases hs with h1 | h1 <;> rw [h1] at this <;> omega
/-! ### the reference's way -/
theorem prI_pos {X : Int} (hX : 2 ≤ X) : ∀ ds : List Nat, (∀ d ∈ ds, 1 ≤ d) → 0 < prI X ds
  | [], _ => by show (0 : Int) < 1; omega
  | d :: r, h => by
    have hd := h d (List.mem_cons_self ..)
    have h1 : 1 ≤ X ^ d - 1 := by
      obtain ⟨m, rfl⟩ : ∃ m, d = m + 1 := ⟨d - 1, by omega⟩
      have hp : 0 < X ^ m := Int.pow_pos (by omega)
      rw [Int.pow_succ]
      have : 1 * 2 ≤ X ^ m * X := Int.mul_le_mul (by omega) hX (by omega) (by omega)
      omega
    have h2 := prI_pos hX r fun x hx => h x (List.mem_cons_of_mem _ hx)
    exact Int.mul_pos (by omega) h2
theorem phi_sup (n i : Nat) (h : totN n + 1 ≤ i) : gx (phi n) i = 0 := gx_out _ _ (by rw [phi_len]; exact h)
/-- The value at any X at which the division goes. -/
theorem phi_at {n : Nat} (h : chkA n = true) (X : Nat) (hX : 2 ≤ X) (hd : divG n X = true) : vl (gx (phi n)) (X : Int) (totN n + 1) = (valG n X : Int) := by
  have v1 := mBs_val (X : Int) (phi_sup n) (dsG n 2 n)
  have v2 := mBs_val (X : Int) one_sup (dsG n 1 n)
  rw [one_val, Int.mul_one] at v2
  have e : mBs (dsG n 2 n) (gx (phi n)) = mBs (dsG n 1 n) one := funext (phi_mul h)
  rw [e] at v1
  let K := max (totN n + 1 + su (dsG n 2 n)) (1 + su (dsG n 1 n))
  have k1 : vl (mBs (dsG n 1 n) one) (X : Int) K = vl (mBs (dsG n 1 n) one) (X : Int) (totN n + 1 + su (dsG n 2 n)) := by
    have e2 : K = (totN n + 1 + su (dsG n 2 n)) + (K - (totN n + 1 + su (dsG n 2 n))) := by omega
    rw [e2]; exact sm_more _ _ _ fun j hj _ => by rw [← e, mBs_sup (phi_sup n) _ j hj, Int.zero_mul]
  have k2 : vl (mBs (dsG n 1 n) one) (X : Int) K = vl (mBs (dsG n 1 n) one) (X : Int) (1 + su (dsG n 1 n)) := by
    have e2 : K = (1 + su (dsG n 1 n)) + (K - (1 + su (dsG n 1 n))) := by omega
    rw [e2]; exact sm_more _ _ _ fun j hj _ => by rw [mBs_sup one_sup _ j hj, Int.zero_mul]
  have hv : prI (X : Int) (dsG n 2 n) * (valG n X : Int) = prI (X : Int) (dsG n 1 n) := by
    have hm : prG X (dsG n 1 n) % prG X (dsG n 2 n) = 0 := by unfold divG at hd; exact eq_of_beq hd
    have := Nat.div_add_mod (prG X (dsG n 1 n)) (prG X (dsG n 2 n))
    rw [hm, Nat.add_zero] at this
    rw [← prG_prI X (by omega), ← prG_prI X (by omega), ← Int.natCast_mul]
    unfold valG; rw [this]
  have hp := prI_pos (X := (X : Int)) (by omega) (dsG n 2 n) (dsG_pos n 2 n)
  refine Int.eq_of_mul_eq_mul_left (Int.ne_of_gt hp) ?_
  rw [hv, ← v1, ← k1, k2, v2]
end Go.Proofs.Ytoagjlcobeimfaa.Pl
