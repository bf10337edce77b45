/-
  PLAIN LAWS, CHAPTER 2: digits, values and the polynomials that are reckoned.
-/
import Derived.Test.YtoagjlcobeimfaaPlO
import Derived.Test.YtoagjlcobeimfaaPlV
namespace Go.Proofs.Ytoagjlcobeimfaa.Pl
open Go
set_option linter.unusedVariables false
/-! ### digits -/
def rp : Nat → Nat
  | 0 => 0
  | k + 1 => TT * rp k + 1
theorem TT_pos : 0 < TT := by decide
theorem rp_eq : ∀ k, 4294967295 * rp k + 1 = TT ^ k
  | 0 => rfl
  | k + 1 => by
    have := rp_eq k
    rw [Nat.pow_succ, ← this]
    show 4294967295 * (4294967296 * rp k + 1) + 1 = (4294967295 * rp k + 1) * 4294967296
    omega
theorem repG_rp (k : Nat) : repG k = rp k := by
  unfold repG
  have := rp_eq k
  rw [← this, Nat.add_sub_cancel, Nat.mul_div_cancel_left _ (by decide)]
theorem rp_last : ∀ k, rp (k + 1) = rp k + TT ^ k
  | 0 => rfl
  | k + 1 => by
    have := rp_last k
    show TT * rp (k + 1) + 1 = (TT * rp k + 1) + TT ^ (k + 1)
    rw [this, Nat.mul_add, Nat.pow_succ, Nat.mul_comm (TT ^ k) TT]; omega
theorem TT_pow (i : Nat) : TT ^ i = 2 ^ (32 * i) := by rw [show TT = 2 ^ 32 from rfl, ← Nat.pow_mul]
theorem bit_m0 : ∀ j, j < 32 → 8 ≤ j → Nat.testBit 4294967040 j = true := by decide
theorem bit_M : ∀ (k i j : Nat), i < k → j < 32 → 8 ≤ j → Nat.testBit (4294967040 * rp k) (32 * i + j) = true
  | 0, i, j, hi, _, _ => absurd hi (Nat.not_lt_zero _)
  | k + 1, i, j, hi, hj, h8 => by
    have e : 4294967040 * rp (k + 1) = 2 ^ 32 * (4294967040 * rp k) + 4294967040 := by
      show 4294967040 * (TT * rp k + 1) = _
      rw [Nat.mul_add, ← Nat.mul_assoc, ← Nat.mul_assoc, Nat.mul_comm 4294967040 TT]; rfl
    rw [e, Nat.testBit_two_pow_mul_add _ (by decide)]
    cases i with
    | zero => rw [Nat.mul_zero, Nat.zero_add, if_pos hj]; exact bit_m0 j hj h8
    | succ i =>
      rw [if_neg (by omega), show 32 * (i + 1) + j - 32 = 32 * i + j by omega]
      exact bit_M k i j (by omega) hj h8
def dgt (x i : Nat) : Nat := x / TT ^ i % TT
theorem dgt_small {x k : Nat} (h : x &&& (4294967040 * rp k) = 0) (i : Nat) (hi : i < k) : dgt x i < 256 := by
  refine Nat.lt_pow_two_of_testBit (n := 8) _ fun j hj => ?_
  unfold dgt
  rw [show TT ^ i = 2 ^ (32 * i) from TT_pow i, show TT = 2 ^ 32 from rfl, Nat.testBit_mod_two_pow, Nat.testBit_div_two_pow]
  by_cases h32 : j < 32
  · have h1 := congrArg (fun y => Nat.testBit y (32 * i + j)) h
    simp only [Nat.testBit_and, bit_M k i j hi h32 hj, Bool.and_true, Nat.zero_testBit] at h1
    rw [Nat.add_comm (32 * i) j] at h1
    rw [h1]; simp
  · simp [h32]
theorem dgt_sum (x : Nat) : ∀ k : Nat, vl (fun i => (dgt x i : Int)) (TT : Int) k = ((x % TT ^ k : Nat) : Int)
  | 0 => by simp [vl, sm, Nat.mod_one]
  | k + 1 => by
    show vl _ _ k + (dgt x k : Int) * (TT : Int) ^ k = _
    rw [dgt_sum x k, Nat.mod_pow_succ]
    unfold dgt
    push_cast
    rw [Int.mul_comm ((TT : Int) ^ k)]
theorem one_sum : ∀ k : Nat, vl (fun _ => 1) (TT : Int) k = (rp k : Int)
  | 0 => rfl
  | k + 1 => by
    show vl _ _ k + 1 * (TT : Int) ^ k = _
    rw [one_sum k, rp_last]; push_cast; omega
/-! ### the polynomial of n -/
noncomputable def xG (n : Nat) : Nat := valG n TT + 128 * repG (totN n + 1)
noncomputable def phi (n : Nat) : List Int := (List.range (totN n + 1)).map fun i => ((dgt (xG n) i : Nat) : Int) - 128
theorem phi_len (n : Nat) : (phi n).length = totN n + 1 := by simp [phi]
theorem phi_gx (n i : Nat) (h : i < totN n + 1) : gx (phi n) i = (dgt (xG n) i : Int) - 128 := by
  rw [gx_eq _ _ (by rw [phi_len]; exact h)]
  simp [phi]
theorem chkA_parts {n : Nat} (h : chkA n = true) :
    prG TT (dsG n 1 n) / prG TT (dsG n 2 n) * prG TT (dsG n 2 n) = prG TT (dsG n 1 n) ∧ xG n &&& (4294967040 * rp (totN n + 1)) = 0 ∧ xG n / TT ^ totN n = 129 ∧
    (dsG n 1 n).length ≤ 16 ∧ (dsG n 2 n).length ≤ 16 ∧ (n ≤ 1 ∨ (dsG n 1 n).length = (dsG n 2 n).length) := by
  unfold chkA chkL chkQ at h
  simp only [Bool.and_eq_true, beq_iff_eq, Nat.ble_eq, Bool.or_eq_true] at h
  obtain ⟨⟨h1, h2, h3⟩, h4, h5, h6⟩ := h
  refine ⟨h1, ?_, ?_, h4, h5, h6⟩
  · unfold xG valG; rw [repG_rp] at *; exact h2
  · unfold xG valG; exact h3
section
variable {n : Nat} (h : chkA n = true)
include h
theorem phi_bd (i : Nat) : -128 ≤ gx (phi n) i ∧ gx (phi n) i ≤ 127 := by
  by_cases hi : i < totN n + 1
  · have := dgt_small (chkA_parts h).2.1 i hi
    rw [phi_gx n i hi]; omega
  · rw [gx_out _ _ (by rw [phi_len]; omega)]; omega
theorem xG_lt : xG n < TT ^ (totN n + 1) := by
  have h3 := (chkA_parts h).2.2.1
  have h4 := Nat.div_add_mod (xG n) (TT ^ totN n)
  have h5 := Nat.mod_lt (xG n) (Nat.pow_pos (n := totN n) TT_pos)
  rw [h3] at h4
  rw [Nat.pow_succ]
  have : TT ^ totN n * 130 ≤ TT ^ totN n * TT := Nat.mul_le_mul_left _ (by decide)
  omega
theorem phi_top : gx (phi n) (totN n) = 1 := by
  rw [phi_gx n _ (by omega)]
  unfold dgt
  rw [(chkA_parts h).2.2.1]; rfl
theorem phi_val : vl (gx (phi n)) (TT : Int) (totN n + 1) = (valG n TT : Int) := by
  have h1 : vl (gx (phi n)) (TT : Int) (totN n + 1) = vl (fun i => (dgt (xG n) i : Int) + (-128) * (fun _ => (1 : Int)) i) (TT : Int) (totN n + 1) := vl_congr _ _ fun j hj => by rw [phi_gx n j hj]; show _ = _ + (-128) * 1; omega
  have h2 := vl_add (fun i => (dgt (xG n) i : Int)) (fun i => (-128) * (fun _ => (1 : Int)) i) (TT : Int) (totN n + 1)
  have h3 : vl (fun i => (-128) * (fun _ => (1 : Int)) i) (TT : Int) (totN n + 1) = (-128) * vl (fun _ => (1 : Int)) (TT : Int) (totN n + 1) := by
    unfold vl
    rw [← sm_mul]
    exact sm_congr _ fun i _ => by simp only [Int.mul_assoc]
  rw [h1, h2, h3, dgt_sum, one_sum, Nat.mod_eq_of_lt (xG_lt h)]
  unfold xG; rw [repG_rp]; push_cast; omega
end
/-! ### injectivity -/
theorem vl_succ (f : Nat → Int) (X : Int) (n : Nat) : vl f X (n + 1) = f 0 + X * vl (fun i => f (i + 1)) X n := by
  unfold vl
  rw [sm_left, ← sm_mul]
  congr 1
  · simp
  · exact sm_congr _ fun i _ => by rw [Int.pow_succ]; rw [Int.mul_comm (X ^ i) X, ← Int.mul_assoc, Int.mul_comm (f (i + 1)) X, Int.mul_assoc]
theorem vl_inj {X C : Int} (hX : 2 * C < X) (h0 : 0 ≤ C) : ∀ (n : Nat) (f g : Nat → Int), (∀ i, i < n → -C ≤ f i ∧ f i ≤ C) → (∀ i, i < n → -C ≤ g i ∧ g i ≤ C) → vl f X n = vl g X n → ∀ i, i < n → f i = g i
  | 0, _, _, _, _, _, i, hi => absurd hi (Nat.not_lt_zero _)
  | n + 1, f, g, hf, hg, e, i, hi => by
    rw [vl_succ, vl_succ] at e
    have hf0 := hf 0 (by omega)
    have hg0 := hg 0 (by omega)
    have hd : f 0 - g 0 = X * (vl (fun i => g (i + 1)) X n - vl (fun i => f (i + 1)) X n) := by rw [Int.mul_sub]; omega
    have hz : vl (fun i => g (i + 1)) X n - vl (fun i => f (i + 1)) X n = 0 := by
      generalize vl (fun i => g (i + 1)) X n - vl (fun i => f (i + 1)) X n = z at hd
      rcases Int.lt_trichotomy z 0 with hz | hz | hz
      · have : X * z ≤ X * (-1) := Int.mul_le_mul_of_nonneg_left (by omega) (by omega)
        omega
      · exact hz
      · have : X * 1 ≤ X * z := Int.mul_le_mul_of_nonneg_left (by omega) (by omega)
        omega
    rw [hz, Int.mul_zero] at hd
    cases i with
    | zero => omega
    | succ i => exact vl_inj hX h0 n (fun i => f (i + 1)) (fun i => g (i + 1)) (fun i hi => hf (i + 1) (by omega)) (fun i hi => hg (i + 1) (by omega)) (by omega) i (by omega)
/-! ### times t^d - 1 -/
def mB (d : Nat) (f : Nat → Int) (i : Nat) : Int := (if d ≤ i then f (i - d) else 0) - f i
def mBs (ds : List Nat) (f : Nat → Int) : Nat → Int := ds.foldr mB f
def su : List Nat → Nat
  | [] => 0
  | d :: r => d + su r
def prI (X : Int) : List Nat → Int
  | [] => 1
  | d :: r => (X ^ d - 1) * prI X r
theorem mB_val {f : Nat → Int} {n : Nat} (d : Nat) (X : Int) (h : ∀ i, n ≤ i → f i = 0) : vl (mB d f) X (n + d) = (X ^ d - 1) * vl f X n := by
  have h1 := vl_shift f 1 X d n
  have h2 := vl_add (fun j => if d ≤ j then 1 * f (j - d) else 0) (fun j => (-1) * f j) X (n + d)
  have h3 : vl (fun j => (-1) * f j) X (n + d) = (-1) * vl f X (n + d) := by
    unfold vl; rw [← sm_mul]; exact sm_congr _ fun i _ => by rw [Int.mul_assoc]
  have h4 : vl f X (n + d) = vl f X n := sm_more _ _ _ fun i hi _ => by rw [h i hi, Int.zero_mul]
  have h5 : vl (mB d f) X (n + d) = vl (fun j => (if d ≤ j then 1 * f (j - d) else 0) + (-1) * f j) X (n + d) := vl_congr _ _ fun j _ => by
    unfold mB; split <;> omega
  rw [h5, h2, h3, h4, Nat.add_comm n d, h1, Int.sub_mul, Int.one_mul, Int.one_mul]; omega
theorem mB_sup {f : Nat → Int} {n d : Nat} (h : ∀ i, n ≤ i → f i = 0) : ∀ i, n + d ≤ i → mB d f i = 0 := fun i hi => by
  unfold mB; rw [if_pos (by omega), h _ (by omega), h _ (by omega)]; rfl
theorem mB_bd {f : Nat → Int} {C : Int} (d : Nat) (h : ∀ i, -C ≤ f i ∧ f i ≤ C) (i : Nat) : -(2 * C) ≤ mB d f i ∧ mB d f i ≤ 2 * C := by
  have h1 := h i; have h2 := h (i - d)
  unfold mB; split <;> omega
theorem mBs_sup {f : Nat → Int} {n : Nat} (h : ∀ i, n ≤ i → f i = 0) : ∀ ds, ∀ i, n + su ds ≤ i → mBs ds f i = 0
  | [], i, hi => h i hi
  | d :: r, i, hi => mB_sup (mBs_sup h r) i (by simp only [su] at hi; omega)
theorem mBs_val {f : Nat → Int} {n : Nat} (X : Int) (h : ∀ i, n ≤ i → f i = 0) : ∀ ds, vl (mBs ds f) X (n + su ds) = prI X ds * vl f X n
  | [] => by show vl f X n = 1 * _; rw [Int.one_mul]
  | d :: r => by
    have e : n + su (d :: r) = (n + su r) + d := by simp only [su]; omega
    show vl (mB d (mBs r f)) X _ = (X ^ d - 1) * prI X r * _
    rw [e, mB_val d X (mBs_sup h r), mBs_val X h r, Int.mul_assoc]
theorem mBs_bd {f : Nat → Int} {C : Int} (h : ∀ i, -C ≤ f i ∧ f i ≤ C) : ∀ ds : List Nat, ∀ i, -(2 ^ ds.length * C) ≤ mBs ds f i ∧ mBs ds f i ≤ 2 ^ ds.length * C
  | [], i => by have := h i; simp [mBs]; omega
  | d :: r, i => by
    have := mB_bd d (mBs_bd h r) i
    rw [List.length_cons, Int.pow_succ]
    have e : (2 : Int) ^ r.length * 2 * C = 2 * (2 ^ r.length * C) := by rw [Int.mul_comm (2 ^ r.length) 2, Int.mul_assoc]
    rw [e]; exact this
theorem prG_prI (X : Nat) (hX : 0 < X) : ∀ ds, ((prG X ds : Nat) : Int) = prI (X : Int) ds
  | [] => rfl
  | d :: r => by
    have h1 : 1 ≤ X ^ d := Nat.pow_pos hX
    show (((X ^ d - 1) * prG X r : Nat) : Int) = ((X : Int) ^ d - 1) * prI X r
    rw [Int.natCast_mul, prG_prI X hX r, Int.natCast_sub h1]; push_cast; rfl
def one (i : Nat) : Int := if i = 0 then 1 else 0
theorem one_val (X : Int) : vl one X 1 = 1 := by simp [vl, sm, one]
theorem one_sup : ∀ i, 1 ≤ i → one i = 0 := fun i hi => if_neg (by omega)
/-- The polynomial of n times all t^d - 1 of one kind are all those of the other kind. -/
theorem phi_mul {n : Nat} (h : chkA n = true) : ∀ i, mBs (dsG n 2 n) (gx (phi n)) i = mBs (dsG n 1 n) one i := by
  obtain ⟨h1, _, _, h4, h5, _⟩ := chkA_parts h
  have hs : ∀ i, totN n + 1 ≤ i → gx (phi n) i = 0 := fun i hi => gx_out _ _ (by rw [phi_len]; exact hi)
  have v1 := mBs_val (TT : Int) hs (dsG n 2 n)
  have v2 := mBs_val (TT : Int) one_sup (dsG n 1 n)
  rw [phi_val h, ← prG_prI TT TT_pos] at v1
  rw [one_val, ← prG_prI TT TT_pos, Int.mul_one] at v2
  have hv : ((prG TT (dsG n 2 n) : Nat) : Int) * (valG n TT : Int) = (prG TT (dsG n 1 n) : Int) := by
    unfold valG
    rw [← Int.natCast_mul, Nat.mul_comm, h1]
  have hp : ∀ (l : List Nat), l.length ≤ 16 → (2 : Int) ^ l.length ≤ 65536 := fun l hl => by
    have h : 2 ^ l.length ≤ 2 ^ 16 := Nat.pow_le_pow_right (by decide) hl
    have h2 : ((2 ^ l.length : Nat) : Int) ≤ ((2 ^ 16 : Nat) : Int) := Int.ofNat_le.2 h
    have e : ((2 ^ l.length : Nat) : Int) = (2 : Int) ^ l.length := by rw [Int.natCast_pow]; rfl
    rw [e] at h2
    exact Int.le_trans h2 (by decide)
  have b1 : ∀ i, -8388608 ≤ mBs (dsG n 2 n) (gx (phi n)) i ∧ mBs (dsG n 2 n) (gx (phi n)) i ≤ 8388608 := fun i => by
    have := mBs_bd (C := 128) (f := gx (phi n)) (fun i => by have := phi_bd h i; omega) (dsG n 2 n) i
    have := hp _ h5; omega
  have b2 : ∀ i, -8388608 ≤ mBs (dsG n 1 n) one i ∧ mBs (dsG n 1 n) one i ≤ 8388608 := fun i => by
    have := mBs_bd (C := 1) (f := one) (fun i => by unfold one; split <;> omega) (dsG n 1 n) i
    have := hp _ h4; omega
  intro i
  let K := max (totN n + 1 + su (dsG n 2 n)) (1 + su (dsG n 1 n)) + i + 1
  have k1 : vl (mBs (dsG n 2 n) (gx (phi n))) (TT : Int) K = vl (mBs (dsG n 2 n) (gx (phi n))) (TT : Int) (totN n + 1 + su (dsG n 2 n)) := by
    have e : K = (totN n + 1 + su (dsG n 2 n)) + (K - (totN n + 1 + su (dsG n 2 n))) := by omega
    rw [e]; exact sm_more _ _ _ fun j hj _ => by rw [mBs_sup hs _ j hj, Int.zero_mul]
  have k2 : vl (mBs (dsG n 1 n) one) (TT : Int) K = vl (mBs (dsG n 1 n) one) (TT : Int) (1 + su (dsG n 1 n)) := by
    have e : K = (1 + su (dsG n 1 n)) + (K - (1 + su (dsG n 1 n))) := by omega
    rw [e]; exact sm_more _ _ _ fun j hj _ => by rw [mBs_sup one_sup _ j hj, Int.zero_mul]
  exact vl_inj (X := (TT : Int)) (C := 8388608) (by decide) (by decide) K _ _ (fun i _ => b1 i) (fun i _ => b2 i) (by rw [k1, k2, v1, v2, hv]) i (by omega)
end Go.Proofs.Ytoagjlcobeimfaa.Pl
