/-
  PLAIN LAWS, CHAPTER 2: digits, values and the polynomials that are reckoned.
  PLAIN LAWS, CHAPTER 2: the polynomial of n as a power series, and along the reference's way.
  PLAIN LAWS, CHAPTER 2: the polynomials of n and of n / p.
  PLAIN LAWS, CHAPTER 2: the division by a polynomial with last coefficient 1, in wrapping numbers.
-/
import Derived.Test.YtogkblncdpbhnaaPlO
import Derived.Test.YtogkblncdpbhnaaPlV
import Derived.IntWalk
namespace Go.Proofs.Ytogkblncdpbhnaa.Pl
open Go
set_option linter.unusedVariables false
/-! ### digits -/
def rp : Nat → Nat
  | 0 => 0
  | k + 1 => TT * rp k + 1
theorem TT_pos : 0 < TT := by decide
theorem rp_eq : ∀ k, 4294967295 * rp k + 1 = TT ^ k
  | 0 => rfl
  | k + 1 => by
    have := rp_eq k
    rw [Nat.pow_succ, ← this]
    show 4294967295 * (4294967296 * rp k + 1) + 1 = (4294967295 * rp k + 1) * 4294967296
    omega
theorem repG_rp (k : Nat) : repG k = rp k := by
  unfold repG
  have := rp_eq k
  rw [← this, Nat.add_sub_cancel, Nat.mul_div_cancel_left _ (by decide)]
theorem rp_last : ∀ k, rp (k + 1) = rp k + TT ^ k
  | 0 => rfl
  | k + 1 => by
    have := rp_last k
    show TT * rp (k + 1) + 1 = (TT * rp k + 1) + TT ^ (k + 1)
    rw [this, Nat.mul_add, Nat.pow_succ, Nat.mul_comm (TT ^ k) TT]; omega
theorem TT_pow (i : Nat) : TT ^ i = 2 ^ (32 * i) := by rw [show TT = 2 ^ 32 from rfl, ← Nat.pow_mul]
theorem bit_m0 : ∀ j, j < 32 → 8 ≤ j → Nat.testBit 4294967040 j = true := by decide
theorem bit_M : ∀ (k i j : Nat), i < k → j < 32 → 8 ≤ j → Nat.testBit (4294967040 * rp k) (32 * i + j) = true
  | 0, i, j, hi, _, _ => absurd hi (Nat.not_lt_zero _)
  | k + 1, i, j, hi, hj, h8 => by
    have e : 4294967040 * rp (k + 1) = 2 ^ 32 * (4294967040 * rp k) + 4294967040 := by
      show 4294967040 * (TT * rp k + 1) = _
      rw [Nat.mul_add, ← Nat.mul_assoc, ← Nat.mul_assoc, Nat.mul_comm 4294967040 TT]; rfl
    rw [e, Nat.testBit_two_pow_mul_add _ (by decide)]
    cases i with
    | zero => rw [Nat.mul_zero, Nat.zero_add, if_pos hj]; exact bit_m0 j hj h8
    | succ i =>
      rw [if_neg (by omega), show 32 * (i + 1) + j - 32 = 32 * i + j by omega]
      exact bit_M k i j (by omega) hj h8
def dgt (x i : Nat) : Nat := x / TT ^ i % TT
theorem dgt_small {x k : Nat} (h : x &&& (4294967040 * rp k) = 0) (i : Nat) (hi : i < k) : dgt x i < 256 := by
  refine Nat.lt_pow_two_of_testBit (n := 8) _ fun j hj => ?_
  unfold dgt
  rw [show TT ^ i = 2 ^ (32 * i) from TT_pow i, show TT = 2 ^ 32 from rfl, Nat.testBit_mod_two_pow, Nat.testBit_div_two_pow]
  by_cases h32 : j < 32
  · have h1 := congrArg (fun y => Nat.testBit y (32 * i + j)) h
    simp only [Nat.testBit_and, bit_M k i j hi h32 hj, Bool.and_true, Nat.zero_testBit] at h1
    rw [Nat.add_comm (32 * i) j] at h1
    rw [h1]; simp
  · simp [h32]
theorem dgt_sum (x : Nat) : ∀ k : Nat, vl (fun i => (dgt x i : Int)) (TT : Int) k = ((x % TT ^ k : Nat) : Int)
  | 0 => by simp [vl, sm, Nat.mod_one]
  | k + 1 => by
    show vl _ _ k + (dgt x k : Int) * (TT : Int) ^ k = _
    rw [dgt_sum x k, Nat.mod_pow_succ]
    unfold dgt
    push_cast
    rw [Int.mul_comm ((TT : Int) ^ k)]
theorem one_sum : ∀ k : Nat, vl (fun _ => 1) (TT : Int) k = (rp k : Int)
  | 0 => rfl
  | k + 1 => by
    show vl _ _ k + 1 * (TT : Int) ^ k = _
    rw [one_sum k, rp_last]; push_cast; omega
/-! ### the polynomial of n -/
noncomputable def xG (n : Nat) : Nat := valG n TT + 128 * repG (totN n + 1)
noncomputable def phi (n : Nat) : List Int := (List.range (totN n + 1)).map fun i => ((dgt (xG n) i : Nat) : Int) - 128
theorem phi_len (n : Nat) : (phi n).length = totN n + 1 := by simp [phi]
theorem phi_gx (n i : Nat) (h : i < totN n + 1) : gx (phi n) i = (dgt (xG n) i : Int) - 128 := by
  rw [gx_eq _ _ (by rw [phi_len]; exact h)]
  simp [phi]
theorem chkA_parts {n : Nat} (h : chkA n = true) :
    prG TT (dsG n 1 n) / prG TT (dsG n 2 n) * prG TT (dsG n 2 n) = prG TT (dsG n 1 n) ∧ xG n &&& (4294967040 * rp (totN n + 1)) = 0 ∧ xG n / TT ^ totN n = 129 ∧
    (dsG n 1 n).length ≤ 16 ∧ (dsG n 2 n).length ≤ 16 ∧ (n ≤ 1 ∨ (dsG n 1 n).length = (dsG n 2 n).length) := by
  unfold chkA chkL chkQ at h
  simp only [Bool.and_eq_true, beq_iff_eq, Nat.ble_eq, Bool.or_eq_true] at h
  obtain ⟨⟨h1, h2, h3⟩, h4, h5, h6⟩ := h
  refine ⟨h1, ?_, ?_, h4, h5, h6⟩
  · unfold xG valG; rw [repG_rp] at *; exact h2
  · unfold xG valG; exact h3
section
variable {n : Nat} (h : chkA n = true)
include h
theorem phi_bd (i : Nat) : -128 ≤ gx (phi n) i ∧ gx (phi n) i ≤ 127 := by
  by_cases hi : i < totN n + 1
  · have := dgt_small (chkA_parts h).2.1 i hi
    rw [phi_gx n i hi]; omega
  · rw [gx_out _ _ (by rw [phi_len]; omega)]; omega
theorem xG_lt : xG n < TT ^ (totN n + 1) := by
  have h3 := (chkA_parts h).2.2.1
  have h4 := Nat.div_add_mod (xG n) (TT ^ totN n)
  have h5 := Nat.mod_lt (xG n) (Nat.pow_pos (n := totN n) TT_pos)
  rw [h3] at h4
  rw [Nat.pow_succ]
  have : TT ^ totN n * 130 ≤ TT ^ totN n * TT := Nat.mul_le_mul_left _ (by decide)
  omega
theorem phi_top : gx (phi n) (totN n) = 1 := by
  rw [phi_gx n _ (by omega)]
  unfold dgt
  rw [(chkA_parts h).2.2.1]; rfl
theorem phi_val : vl (gx (phi n)) (TT : Int) (totN n + 1) = (valG n TT : Int) := by
  have h1 : vl (gx (phi n)) (TT : Int) (totN n + 1) = vl (fun i => (dgt (xG n) i : Int) + (-128) * (fun _ => (1 : Int)) i) (TT : Int) (totN n + 1) := vl_congr _ _ fun j hj => by rw [phi_gx n j hj]; show _ = _ + (-128) * 1; omega
  have h2 := vl_add (fun i => (dgt (xG n) i : Int)) (fun i => (-128) * (fun _ => (1 : Int)) i) (TT : Int) (totN n + 1)
  have h3 : vl (fun i => (-128) * (fun _ => (1 : Int)) i) (TT : Int) (totN n + 1) = (-128) * vl (fun _ => (1 : Int)) (TT : Int) (totN n + 1) := by
    unfold vl
    rw [← sm_mul]
    exact sm_congr _ fun i _ => by simp only [Int.mul_assoc]
  rw [h1, h2, h3, dgt_sum, one_sum, Nat.mod_eq_of_lt (xG_lt h)]
  unfold xG; rw [repG_rp]; push_cast; omega
end
/-! ### injectivity -/
theorem vl_succ (f : Nat → Int) (X : Int) (n : Nat) : vl f X (n + 1) = f 0 + X * vl (fun i => f (i + 1)) X n := by
  unfold vl
  rw [sm_left, ← sm_mul]
  congr 1
  · simp
  · exact sm_congr _ fun i _ => by rw [Int.pow_succ]; rw [Int.mul_comm (X ^ i) X, ← Int.mul_assoc, Int.mul_comm (f (i + 1)) X, Int.mul_assoc]
theorem vl_inj {X C : Int} (hX : 2 * C < X) (h0 : 0 ≤ C) : ∀ (n : Nat) (f g : Nat → Int), (∀ i, i < n → -C ≤ f i ∧ f i ≤ C) → (∀ i, i < n → -C ≤ g i ∧ g i ≤ C) → vl f X n = vl g X n → ∀ i, i < n → f i = g i
  | 0, _, _, _, _, _, i, hi => absurd hi (Nat.not_lt_zero _)
  | n + 1, f, g, hf, hg, e, i, hi => by
    rw [vl_succ, vl_succ] at e
    have hf0 := hf 0 (by omega)
    have hg0 := hg 0 (by omega)
    have hd : f 0 - g 0 = X * (vl (fun i => g (i + 1)) X n - vl (fun i => f (i + 1)) X n) := by rw [Int.mul_sub]; omega
    have hz : vl (fun i => g (i + 1)) X n - vl (fun i => f (i + 1)) X n = 0 := by
      generalize vl (fun i => g (i + 1)) X n - vl (fun i => f (i + 1)) X n = z at hd
      rcases Int.lt_trichotomy z 0 with hz | hz | hz
      · have : X * z ≤ X * (-1) := Int.mul_le_mul_of_nonneg_left (by omega) (by omega)
        omega
      · exact hz
      · have : X * 1 ≤ X * z := Int.mul_le_mul_of_nonneg_left (by omega) (by omega)
        omega
    rw [hz, Int.mul_zero] at hd
    cases i with
    | zero => omega
    | succ i => exact vl_inj hX h0 n (fun i => f (i + 1)) (fun i => g (i + 1)) (fun i hi => hf (i + 1) (by omega)) (fun i hi => hg (i + 1) (by omega)) (by omega) i (by omega)
/-! ### times t^d - 1 -/
def mB (d : Nat) (f : Nat → Int) (i : Nat) : Int := (if d ≤ i then f (i - d) else 0) - f i
def mBs (ds : List Nat) (f : Nat → Int) : Nat → Int := ds.foldr mB f
def su : List Nat → Nat
  | [] => 0
  | d :: r => d + su r
def prI (X : Int) : List Nat → Int
  | [] => 1
  | d :: r => (X ^ d - 1) * prI X r
theorem mB_val {f : Nat → Int} {n : Nat} (d : Nat) (X : Int) (h : ∀ i, n ≤ i → f i = 0) : vl (mB d f) X (n + d) = (X ^ d - 1) * vl f X n := by
  have h1 := vl_shift f 1 X d n
  have h2 := vl_add (fun j => if d ≤ j then 1 * f (j - d) else 0) (fun j => (-1) * f j) X (n + d)
  have h3 : vl (fun j => (-1) * f j) X (n + d) = (-1) * vl f X (n + d) := by
    unfold vl; rw [← sm_mul]; exact sm_congr _ fun i _ => by rw [Int.mul_assoc]
  have h4 : vl f X (n + d) = vl f X n := sm_more _ _ _ fun i hi _ => by rw [h i hi, Int.zero_mul]
  have h5 : vl (mB d f) X (n + d) = vl (fun j => (if d ≤ j then 1 * f (j - d) else 0) + (-1) * f j) X (n + d) := vl_congr _ _ fun j _ => by
    unfold mB; split <;> omega
  rw [h5, h2, h3, h4, Nat.add_comm n d, h1, Int.sub_mul, Int.one_mul, Int.one_mul]; omega
theorem mB_sup {f : Nat → Int} {n d : Nat} (h : ∀ i, n ≤ i → f i = 0) : ∀ i, n + d ≤ i → mB d f i = 0 := fun i hi => by
  unfold mB; rw [if_pos (by omega), h _ (by omega), h _ (by omega)]; rfl
theorem mB_bd {f : Nat → Int} {C : Int} (d : Nat) (h : ∀ i, -C ≤ f i ∧ f i ≤ C) (i : Nat) : -(2 * C) ≤ mB d f i ∧ mB d f i ≤ 2 * C := by
  have h1 := h i; have h2 := h (i - d)
  unfold mB; split <;> omega
theorem mBs_sup {f : Nat → Int} {n : Nat} (h : ∀ i, n ≤ i → f i = 0) : ∀ ds, ∀ i, n + su ds ≤ i → mBs ds f i = 0
  | [], i, hi => h i hi
  | d :: r, i, hi => mB_sup (mBs_sup h r) i (by simp only [su] at hi; omega)
theorem mBs_val {f : Nat → Int} {n : Nat} (X : Int) (h : ∀ i, n ≤ i → f i = 0) : ∀ ds, vl (mBs ds f) X (n + su ds) = prI X ds * vl f X n
  | [] => by show vl f X n = 1 * _; rw [Int.one_mul]
  | d :: r => by
    have e : n + su (d :: r) = (n + su r) + d := by simp only [su]; omega
    show vl (mB d (mBs r f)) X _ = (X ^ d - 1) * prI X r * _
    rw [e, mB_val d X (mBs_sup h r), mBs_val X h r, Int.mul_assoc]
theorem mBs_bd {f : Nat → Int} {C : Int} (h : ∀ i, -C ≤ f i ∧ f i ≤ C) : ∀ ds : List Nat, ∀ i, -(2 ^ ds.length * C) ≤ mBs ds f i ∧ mBs ds f i ≤ 2 ^ ds.length * C
  | [], i => by have := h i; simp [mBs]; omega
  | d :: r, i => by
    have := mB_bd d (mBs_bd h r) i
    rw [List.length_cons, Int.pow_succ]
    have e : (2 : Int) ^ r.length * 2 * C = 2 * (2 ^ r.length * C) := by rw [Int.mul_comm (2 ^ r.length) 2, Int.mul_assoc]
    rw [e]; exact this
theorem prG_prI (X : Nat) (hX : 0 < X) : ∀ ds, ((prG X ds : Nat) : Int) = prI (X : Int) ds
  | [] => rfl
  | d :: r => by
    have h1 : 1 ≤ X ^ d := Nat.pow_pos hX
    show (((X ^ d - 1) * prG X r : Nat) : Int) = ((X : Int) ^ d - 1) * prI X r
    rw [Int.natCast_mul, prG_prI X hX r, Int.natCast_sub h1]; push_cast; rfl
def one (i : Nat) : Int := if i = 0 then 1 else 0
theorem one_val (X : Int) : vl one X 1 = 1 := by simp [vl, sm, one]
theorem one_sup : ∀ i, 1 ≤ i → one i = 0 := fun i hi => if_neg (by omega)
/-- The polynomial of n times all t^d - 1 of one kind are all those of the other kind. -/
theorem phi_mul {n : Nat} (h : chkA n = true) : ∀ i, mBs (dsG n 2 n) (gx (phi n)) i = mBs (dsG n 1 n) one i := by
  obtain ⟨h1, _, _, h4, h5, _⟩ := chkA_parts h
  have hs : ∀ i, totN n + 1 ≤ i → gx (phi n) i = 0 := fun i hi => gx_out _ _ (by rw [phi_len]; exact hi)
  have v1 := mBs_val (TT : Int) hs (dsG n 2 n)
  have v2 := mBs_val (TT : Int) one_sup (dsG n 1 n)
  rw [phi_val h, ← prG_prI TT TT_pos] at v1
  rw [one_val, ← prG_prI TT TT_pos, Int.mul_one] at v2
  have hv : ((prG TT (dsG n 2 n) : Nat) : Int) * (valG n TT : Int) = (prG TT (dsG n 1 n) : Int) := by
    unfold valG
    rw [← Int.natCast_mul, Nat.mul_comm, h1]
  have hp : ∀ (l : List Nat), l.length ≤ 16 → (2 : Int) ^ l.length ≤ 65536 := fun l hl => by
    have h : 2 ^ l.length ≤ 2 ^ 16 := Nat.pow_le_pow_right (by decide) hl
    have h2 : ((2 ^ l.length : Nat) : Int) ≤ ((2 ^ 16 : Nat) : Int) := Int.ofNat_le.2 h
    have e : ((2 ^ l.length : Nat) : Int) = (2 : Int) ^ l.length := by rw [Int.natCast_pow]; rfl
    rw [e] at h2
    exact Int.le_trans h2 (by decide)
  have b1 : ∀ i, -8388608 ≤ mBs (dsG n 2 n) (gx (phi n)) i ∧ mBs (dsG n 2 n) (gx (phi n)) i ≤ 8388608 := fun i => by
    have := mBs_bd (C := 128) (f := gx (phi n)) (fun i => by have := phi_bd h i; omega) (dsG n 2 n) i
    have := hp _ h5; omega
  have b2 : ∀ i, -8388608 ≤ mBs (dsG n 1 n) one i ∧ mBs (dsG n 1 n) one i ≤ 8388608 := fun i => by
    have := mBs_bd (C := 1) (f := one) (fun i => by unfold one; split <;> omega) (dsG n 1 n) i
    have := hp _ h4; omega
  intro i
  let K := max (totN n + 1 + su (dsG n 2 n)) (1 + su (dsG n 1 n)) + i + 1
  have k1 : vl (mBs (dsG n 2 n) (gx (phi n))) (TT : Int) K = vl (mBs (dsG n 2 n) (gx (phi n))) (TT : Int) (totN n + 1 + su (dsG n 2 n)) := by
    have e : K = (totN n + 1 + su (dsG n 2 n)) + (K - (totN n + 1 + su (dsG n 2 n))) := by omega
    rw [e]; exact sm_more _ _ _ fun j hj _ => by rw [mBs_sup hs _ j hj, Int.zero_mul]
  have k2 : vl (mBs (dsG n 1 n) one) (TT : Int) K = vl (mBs (dsG n 1 n) one) (TT : Int) (1 + su (dsG n 1 n)) := by
    have e : K = (1 + su (dsG n 1 n)) + (K - (1 + su (dsG n 1 n))) := by omega
    rw [e]; exact sm_more _ _ _ fun j hj _ => by rw [mBs_sup one_sup _ j hj, Int.zero_mul]
  exact vl_inj (X := (TT : Int)) (C := 8388608) (by decide) (by decide) K _ _ (fun i _ => b1 i) (fun i _ => b2 i) (by rw [k1, k2, v1, v2, hv]) i (by omega)
end Go.Proofs.Ytogkblncdpbhnaa.Pl
namespace Go.Proofs.Ytogkblncdpbhnaa.Pl
open Go
set_option linter.unusedVariables false
/-! ### times 1 - t^d -/
def mN (d : Nat) (f : Nat → Int) (i : Nat) : Int := f i - (if d ≤ i then f (i - d) else 0)
def mNs (ds : List Nat) (f : Nat → Int) : Nat → Int := ds.foldr mN f
theorem mN_comm (d e : Nat) (f : Nat → Int) : mN d (mN e f) = mN e (mN d f) := by
  funext i
  unfold mN
  by_cases h1 : d ≤ i <;> by_cases h2 : e ≤ i
  · simp only [h1, h2, if_true]
    by_cases h3 : e ≤ i - d
    · have h4 : d ≤ i - e := by omega
      have h5 : i - d - e = i - e - d := by omega
      simp only [h3, h4, if_true, h5]; omega
    · have h4 : ¬ d ≤ i - e := by omega
      simp only [h3, h4, if_false]; omega
  · have h3 : ¬ e ≤ i - d := by omega
    simp only [h1, h2, h3, if_true, if_false]; omega
  · have h4 : ¬ d ≤ i - e := by omega
    simp only [h1, h2, h4, if_true, if_false]; omega
  · simp only [h1, h2, if_false]
theorem mNs_comm (d : Nat) : ∀ (ds : List Nat) (f : Nat → Int), mNs ds (mN d f) = mN d (mNs ds f)
  | [], f => rfl
  | e :: r, f => by
    show mN e (mNs r (mN d f)) = mN d (mN e (mNs r f))
    rw [mNs_comm d r f, mN_comm]
theorem mN_inj {d : Nat} (hd : 1 ≤ d) {f g : Nat → Int} (h : mN d f = mN d g) : f = g := by
  funext i
  induction i using Nat.strongRecOn with
  | ind i ih =>
    have e := congrFun h i
    unfold mN at e
    by_cases h1 : d ≤ i
    · rw [if_pos h1, if_pos h1, ih (i - d) (by omega)] at e; omega
    · rw [if_neg h1, if_neg h1] at e; omega
theorem mNs_inj : ∀ {ds : List Nat}, (∀ d ∈ ds, 1 ≤ d) → ∀ {f g : Nat → Int}, mNs ds f = mNs ds g → f = g
  | [], _, _, _, h => h
  | d :: r, hd, f, g, h => mNs_inj (fun x hx => hd x (List.mem_cons_of_mem _ hx)) (mN_inj (hd d (List.mem_cons_self ..)) h)
theorem mB_mN (d : Nat) (f : Nat → Int) (s : Int) : mB d (fun i => s * f i) = fun i => (-s) * mN d f i := by
  funext i
  unfold mB mN
  by_cases h : d ≤ i
  · simp only [h, if_true]; rw [Int.neg_mul, Int.mul_sub]; omega
  · simp only [h, if_false]; rw [Int.neg_mul, Int.sub_zero]; omega
/-- A sign. -/
def sgn1 : Nat → Int
  | 0 => 1
  | n + 1 => - sgn1 n
theorem sgn1_sq : ∀ n, sgn1 n = 1 ∨ sgn1 n = -1
  | 0 => .inl rfl
  | n + 1 => by have := sgn1_sq n; simp only [sgn1]; omega
theorem mBs_mNs (f : Nat → Int) : ∀ ds : List Nat, mBs ds f = fun i => sgn1 ds.length * mNs ds f i
  | [] => by funext i; show f i = 1 * f i; omega
  | d :: r => by
    show mB d (mBs r f) = _
    rw [mBs_mNs f r, mB_mN]; rfl
theorem dsG_succ (n s k : Nat) : dsG n s (k + 1) = cond (Nat.beq (Nat.mod n (k + 1)) 0) (cond (Nat.beq (mobC (Nat.div n (k + 1))) s) ((k + 1) :: dsG n s k) (dsG n s k)) (dsG n s k) := rfl
theorem dsG_in {n s k : Nat} (h : n % (k + 1) = 0) (h2 : mobC (n / (k + 1)) = s) : dsG n s (k + 1) = (k + 1) :: dsG n s k := by
  rw [dsG_succ, show Nat.beq (Nat.mod n (k + 1)) 0 = true from Eq.mpr Nat.beq_eq h, show Nat.beq (mobC (Nat.div n (k + 1))) s = true from Eq.mpr Nat.beq_eq h2]; rfl
theorem dsG_out {n s k : Nat} (h : n % (k + 1) ≠ 0 ∨ mobC (n / (k + 1)) ≠ s) : dsG n s (k + 1) = dsG n s k := by
  rw [dsG_succ]
  rcases h1 : Nat.beq (Nat.mod n (k + 1)) 0 with _ | _
  · rfl
  · rcases h2 : Nat.beq (mobC (Nat.div n (k + 1))) s with _ | _
    · rfl
    · rcases h with h | h
      · exact absurd (Eq.mp Nat.beq_eq h1) h
      · exact absurd (Eq.mp Nat.beq_eq h2) h
theorem dsG_pos (n s : Nat) : ∀ k, ∀ d ∈ dsG n s k, 1 ≤ d
  | 0, d, h => by cases h
  | k + 1, d, h => by
    by_cases h1 : n % (k + 1) = 0 ∧ mobC (n / (k + 1)) = s
    · rw [dsG_in h1.1 h1.2] at h
      rcases List.mem_cons.1 h with rfl | h
      · omega
      · exact dsG_pos n s k d h
    · rw [dsG_out (by by_cases h2 : n % (k + 1) = 0; exact .inr fun e => h1 ⟨h2, e⟩; exact .inl h2)] at h
      exact dsG_pos n s k d h
/-- The series that the program makes is the polynomial. -/
theorem series_phi {n : Nat} (h : chkA n = true) (hn : 2 ≤ n) {f : Nat → Int} (hf : mNs (dsG n 2 n) f = mNs (dsG n 1 n) one) : f = gx (phi n) := by
  have e := phi_mul h
  have hl := (chkA_parts h).2.2.2.2.2
  have hl' : (dsG n 1 n).length = (dsG n 2 n).length := by omega
  rw [mBs_mNs, mBs_mNs, hl'] at e
  have hs := sgn1_sq (dsG n 2 n).length
  refine mNs_inj (dsG_pos n 2 n) ?_
  rw [hf]
  funext i
  have this : sgn1 (dsG n 2 n).length * mNs (dsG n 2 n) (gx (phi n)) i = sgn1 (dsG n 2 n).length * mNs (dsG n 1 n) one i := e i
  rcases hs with h1 | h1 <;> rw [h1] at this <;> omega
/-! ### the reference's way -/
theorem prI_pos {X : Int} (hX : 2 ≤ X) : ∀ ds : List Nat, (∀ d ∈ ds, 1 ≤ d) → 0 < prI X ds
  | [], _ => by show (0 : Int) < 1; omega
  | d :: r, h => by
    have hd := h d (List.mem_cons_self ..)
    have h1 : 1 ≤ X ^ d - 1 := by
      obtain ⟨m, rfl⟩ : ∃ m, d = m + 1 := ⟨d - 1, by omega⟩
      have hp : 0 < X ^ m := Int.pow_pos (by omega)
      rw [Int.pow_succ]
      have : 1 * 2 ≤ X ^ m * X := Int.mul_le_mul (by omega) hX (by omega) (by omega)
      omega
    have h2 := prI_pos hX r fun x hx => h x (List.mem_cons_of_mem _ hx)
    exact Int.mul_pos (by omega) h2
theorem phi_sup (n i : Nat) (h : totN n + 1 ≤ i) : gx (phi n) i = 0 := gx_out _ _ (by rw [phi_len]; exact h)
/-- The value at any X at which the division goes. -/
theorem phi_at {n : Nat} (h : chkA n = true) (X : Nat) (hX : 2 ≤ X) (hd : divG n X = true) : vl (gx (phi n)) (X : Int) (totN n + 1) = (valG n X : Int) := by
  have v1 := mBs_val (X : Int) (phi_sup n) (dsG n 2 n)
  have v2 := mBs_val (X : Int) one_sup (dsG n 1 n)
  rw [one_val, Int.mul_one] at v2
  have e : mBs (dsG n 2 n) (gx (phi n)) = mBs (dsG n 1 n) one := funext (phi_mul h)
  rw [e] at v1
  let K := max (totN n + 1 + su (dsG n 2 n)) (1 + su (dsG n 1 n))
  have k1 : vl (mBs (dsG n 1 n) one) (X : Int) K = vl (mBs (dsG n 1 n) one) (X : Int) (totN n + 1 + su (dsG n 2 n)) := by
    have e2 : K = (totN n + 1 + su (dsG n 2 n)) + (K - (totN n + 1 + su (dsG n 2 n))) := by omega
    rw [e2]; exact sm_more _ _ _ fun j hj _ => by rw [← e, mBs_sup (phi_sup n) _ j hj, Int.zero_mul]
  have k2 : vl (mBs (dsG n 1 n) one) (X : Int) K = vl (mBs (dsG n 1 n) one) (X : Int) (1 + su (dsG n 1 n)) := by
    have e2 : K = (1 + su (dsG n 1 n)) + (K - (1 + su (dsG n 1 n))) := by omega
    rw [e2]; exact sm_more _ _ _ fun j hj _ => by rw [mBs_sup one_sup _ j hj, Int.zero_mul]
  have hv : prI (X : Int) (dsG n 2 n) * (valG n X : Int) = prI (X : Int) (dsG n 1 n) := by
    have hm : prG X (dsG n 1 n) % prG X (dsG n 2 n) = 0 := by unfold divG at hd; exact eq_of_beq hd
    have := Nat.div_add_mod (prG X (dsG n 1 n)) (prG X (dsG n 2 n))
    rw [hm, Nat.add_zero] at this
    rw [← prG_prI X (by omega), ← prG_prI X (by omega), ← Int.natCast_mul]
    unfold valG; rw [this]
  have hp := prI_pos (X := (X : Int)) (by omega) (dsG n 2 n) (dsG_pos n 2 n)
  refine Int.eq_of_mul_eq_mul_left (Int.ne_of_gt hp) ?_
  rw [hv, ← v1, ← k1, k2, v2]
end Go.Proofs.Ytogkblncdpbhnaa.Pl
namespace Go.Proofs.Ytogkblncdpbhnaa.Pl
open Go
set_option linter.unusedVariables false
set_option linter.unusedSectionVars false
/-! ### the kernel's answers -/
theorem prm_aux (p : Nat) (h : ∀ e, 2 ≤ e → e < p → p % e ≠ 0) : ∀ k : Nat, (Nat.rec true (fun k ih => cond (Nat.blt k 1) true (cond (Nat.blt (Nat.succ k) p) (cond (Nat.beq (Nat.mod p (Nat.succ k)) 0) false ih) ih)) k : Bool) = true
  | 0 => rfl
  | k + 1 => by
    have ih := prm_aux p h k
    show cond (Nat.blt k 1) true (cond (Nat.blt (Nat.succ k) p) (cond (Nat.beq (Nat.mod p (Nat.succ k)) 0) false _) _) = true
    rcases h1 : Nat.blt k 1 with _ | _
    · rcases h2 : Nat.blt (Nat.succ k) p with _ | _
      · exact ih
      · rcases h3 : Nat.beq (Nat.mod p (Nat.succ k)) 0 with _ | _
        · exact ih
        · have a1 : ¬ k < 1 := fun e => by have : Nat.blt k 1 = true := Nat.ble_eq.mpr e; rw [h1] at this; cases this
          have a2 : k + 1 < p := Nat.ble_eq.mp h2
          exact absurd (Eq.mp Nat.beq_eq h3) (h (k + 1) (by omega) a2)
    · rfl
theorem prmG_of {p : Nat} (h : ∀ e, 2 ≤ e → e < p → p % e ≠ 0) : prmG p = true := prm_aux p h 44
theorem chkP_aux (n : Nat) : ∀ k : Nat, (Nat.rec true (fun k ih => cond (Nat.blt k 1) true (cond (Nat.beq (Nat.mod n (Nat.succ k)) 0) (cond (prmG (Nat.succ k)) (cond (chkB n (Nat.succ k)) ih false) ih) ih)) k : Bool) = true →
    ∀ p, 2 ≤ p → p ≤ k → n % p = 0 → prmG p = true → chkB n p = true
  | 0, _, p, h2, h3, _, _ => by omega
  | k + 1, h, p, h2, h3, h4, h5 => by
    have ih := chkP_aux n k
    have h' : cond (Nat.blt k 1) true (cond (Nat.beq (Nat.mod n (Nat.succ k)) 0) (cond (prmG (Nat.succ k)) (cond (chkB n (Nat.succ k)) _ false) _) _) = true := h
    rcases h1 : Nat.blt k 1 with _ | _ <;> rw [h1] at h'
    · rcases Nat.lt_or_eq_of_le h3 with h6 | rfl
      · rcases h7 : Nat.beq (Nat.mod n (Nat.succ k)) 0 with _ | _ <;> rw [h7] at h'
        · exact ih h' p h2 (by omega) h4 h5
        · rcases h8 : prmG (Nat.succ k) with _ | _ <;> rw [h8] at h'
          · exact ih h' p h2 (by omega) h4 h5
          · rcases h9 : chkB n (Nat.succ k) with _ | _ <;> rw [h9] at h'
            · cases h'
            · exact ih h' p h2 (by omega) h4 h5
      · have h7 : Nat.beq (Nat.mod n (Nat.succ k)) 0 = true := Eq.mpr Nat.beq_eq h4
        rw [h7, h5] at h'
        rcases h9 : chkB n (k + 1) with _ | _
        · have h9' : chkB n (Nat.succ k) = false := h9
          rw [h9'] at h'; cases h'
        · rfl
    · have : k < 1 := Nat.ble_eq.mp h1
      omega
theorem chkP_get {n p : Nat} (h : chkP n = true) (h2 : 2 ≤ p) (h3 : p ≤ n) (h4 : n % p = 0) (h5 : ∀ e, 2 ≤ e → e < p → p % e ≠ 0) : chkB n p = true :=
  chkP_aux n n h p h2 h3 h4 (prmG_of h5)
/-! ### t^k in place of t -/
def sp (f : Nat → Int) (k i : Nat) : Int := if i % k = 0 then f (i / k) else 0
theorem gx_spread (p : List Int) {k : Nat} (hk : 0 < k) (h0 : 0 < p.length) (i : Nat) : gx (spread p k) i = sp (gx p) k i := by
  have hl : (spread p k).length = (p.length - 1) * k + 1 := by unfold spread; rw [if_neg (by omega)]; simp
  by_cases hi : i < (p.length - 1) * k + 1
  · rw [gx_eq _ _ (by omega)]
    unfold spread sp
    simp [show p.length ≠ 0 by omega]
  · rw [gx_out _ _ (by omega)]
    unfold sp
    by_cases hm : i % k = 0
    · rw [if_pos hm, gx_out]
      have h1 := Nat.div_add_mod i k
      rw [hm, Nat.add_zero] at h1
      rcases Nat.lt_or_ge (i / k) p.length with h2 | h2
      · have : k * (i / k) ≤ k * (p.length - 1) := Nat.mul_le_mul_left _ (by omega)
        rw [h1, Nat.mul_comm] at this
        omega
      · exact h2
    · rw [if_neg hm]
theorem vl_sp (f : Nat → Int) (X : Int) {k : Nat} (hk : 0 < k) : ∀ n : Nat, vl (sp f k) X (n * k + 1) = vl f (X ^ k) (n + 1)
  | 0 => by simp [vl, sm, sp]
  | n + 1 => by
    have ih := vl_sp f X hk n
    have e : (n + 1) * k + 1 = ((n * k + 1) + (k - 1)) + 1 := by rw [Nat.add_mul, Nat.one_mul]; omega
    have h1 : vl (sp f k) X ((n * k + 1) + (k - 1)) = vl (sp f k) X (n * k + 1) := sm_more _ _ _ fun i hi hi2 => by
      have : i % k ≠ 0 := fun hm => by
        have h1 := Nat.div_add_mod i k
        rw [hm, Nat.add_zero] at h1
        have h3 : n < i / k := by
          rcases Nat.lt_or_ge n (i / k) with h | h
          · exact h
          · have : k * (i / k) ≤ k * n := Nat.mul_le_mul_left _ h
            rw [h1, Nat.mul_comm] at this; omega
        have : k * (n + 1) ≤ k * (i / k) := Nat.mul_le_mul_left _ h3
        rw [h1, Nat.mul_add, Nat.mul_comm] at this; omega
      unfold sp; rw [if_neg this, Int.zero_mul]
    have h2 : (n * k + 1) + (k - 1) = k * (n + 1) := by rw [Nat.mul_add, Nat.mul_comm k n]; omega
    rw [e]
    show vl (sp f k) X ((n * k + 1) + (k - 1)) + sp f k ((n * k + 1) + (k - 1)) * X ^ ((n * k + 1) + (k - 1)) = vl f (X ^ k) (n + 1) + f (n + 1) * (X ^ k) ^ (n + 1)
    rw [h1, ih, h2]
    have h3 : sp f k (k * (n + 1)) = f (n + 1) := by unfold sp; rw [if_pos (Nat.mul_mod_right _ _), Nat.mul_div_cancel_left _ hk]
    rw [h3, Int.pow_mul]
/-! ### products -/
theorem cp_bd {P q : List Int} (h1 : ∀ i, -128 ≤ gx P i ∧ gx P i ≤ 128) (h2 : ∀ i, -128 ≤ gx q i ∧ gx q i ≤ 128) (j : Nat) : ∀ n : Nat, -(16384 * (n : Int)) ≤ cp P q n j ∧ cp P q n j ≤ 16384 * (n : Int)
  | 0 => by show _ ≤ (0 : Int) ∧ (0 : Int) ≤ _; omega
  | n + 1 => by
    have ih := cp_bd h1 h2 j n
    rw [cp_succ]
    have : -16384 ≤ (if n ≤ j then gx P n * gx q (j - n) else 0) ∧ (if n ≤ j then gx P n * gx q (j - n) else 0) ≤ 16384 := by
      split
      · have a := h1 n; have b := h2 (j - n)
        generalize gx P n = x at *; generalize gx q (j - n) = y at *
        have c1 : (x + 128) * (y + 128) ≥ 0 := Int.mul_nonneg (by omega) (by omega)
        have c2 : (128 - x) * (128 - y) ≥ 0 := Int.mul_nonneg (by omega) (by omega)
        have c3 : (x + 128) * (128 - y) ≥ 0 := Int.mul_nonneg (by omega) (by omega)
        have c4 : (128 - x) * (y + 128) ≥ 0 := Int.mul_nonneg (by omega) (by omega)
        simp only [Int.add_mul, Int.mul_add, Int.sub_mul, Int.mul_sub] at c1 c2 c3 c4
        omega
      · omega
    omega
theorem cp_sup (P q : List Int) (n j : Nat) (h : n + q.length ≤ j + 1) : cp P q n j = 0 := by
  unfold cp
  refine sm_zero n fun i hi => ?_
  rw [if_pos (by omega), gx_out q _ (by omega), Int.mul_zero]
theorem list_of_top {a b : List Int} {k l : Nat} (ha : a.length = k + 1) (hb : b.length = l + 1) (ha1 : gx a k = 1) (hb1 : gx b l = 1) (h : ∀ j, gx a j = gx b j) : a = b := by
  have hl : k = l := by
    rcases Nat.lt_trichotomy k l with h1 | h1 | h1
    · rw [← h, gx_out a l (by omega)] at hb1; omega
    · exact h1
    · rw [h, gx_out b k (by omega)] at ha1; omega
  exact gx_ext _ _ (by omega) fun k _ => h k
section
variable {n m p : Nat} (hm : chkA m = true) (hn : chkA n = true) (hp : 2 ≤ p) (hnm : n / p = m) (hb : chkB n p = true)
include hm hn hp hnm hb
theorem chkB_parts : divG m (TT ^ p) = true ∧ (m % p = 0 → valG n TT = valG m (TT ^ p)) ∧ (m % p ≠ 0 → valG m TT * valG n TT = valG m (TT ^ p)) := by
  unfold chkB at hb
  rw [hnm, Bool.and_eq_true] at hb
  obtain ⟨h1, h2⟩ := hb
  refine ⟨h1, fun h => ?_, fun h => ?_⟩
  · rw [show Nat.beq (Nat.mod m p) 0 = true from Eq.mpr Nat.beq_eq h] at h2
    exact Eq.mp Nat.beq_eq h2
  · rcases h3 : Nat.beq (Nat.mod m p) 0 with _ | _
    · rw [h3] at h2; exact Eq.mp Nat.beq_eq h2
    · exact absurd (Eq.mp Nat.beq_eq h3) h
theorem spread_top : (spread (phi m) p).length = totN m * p + 1 ∧ gx (spread (phi m) p) (totN m * p) = 1 := by
  have hl : (phi m).length = totN m + 1 := phi_len m
  refine ⟨by unfold spread; rw [if_neg (by omega), hl]; simp, ?_⟩
  rw [gx_spread _ (by omega) (by omega)]
  unfold sp
  rw [if_pos (Nat.mul_mod_left _ _), Nat.mul_div_cancel _ (by omega), phi_top hm]
theorem spread_bd (i : Nat) : -128 ≤ gx (spread (phi m) p) i ∧ gx (spread (phi m) p) i ≤ 128 := by
  rw [gx_spread _ (by omega) (by rw [phi_len]; omega)]
  unfold sp
  split
  · have := phi_bd hm (i / p); omega
  · omega
theorem spread_val (K : Nat) (hK : totN m * p + 1 ≤ K) : vl (gx (spread (phi m) p)) (TT : Int) K = (valG m (TT ^ p) : Int) := by
  have h1 : vl (gx (spread (phi m) p)) (TT : Int) K = vl (gx (spread (phi m) p)) (TT : Int) (totN m * p + 1) := by
    have e : K = (totN m * p + 1) + (K - (totN m * p + 1)) := by omega
    rw [e]; exact sm_more _ _ _ fun j hj _ => by rw [gx_out _ _ (by rw [(spread_top hm hn hp hnm hb).1]; exact hj), Int.zero_mul]
  have h2 : vl (gx (spread (phi m) p)) (TT : Int) (totN m * p + 1) = vl (sp (gx (phi m)) p) (TT : Int) (totN m * p + 1) := vl_congr _ _ fun j _ => gx_spread _ (by omega) (by rw [phi_len]; omega) j
  have hX : 2 ≤ TT ^ p := by
    have : 2 ^ 1 ≤ TT ^ p := Nat.le_trans (Nat.pow_le_pow_left (by decide : 2 ≤ TT) 1) (Nat.pow_le_pow_right TT_pos (by omega))
    exact this
  have h3 := phi_at hm (TT ^ p) hX (chkB_parts hm hn hp hnm hb).1
  rw [h1, h2, vl_sp _ _ (by omega), ← h3, Int.natCast_pow]
theorem phi_vals (K : Nat) (hK : totN n + 1 ≤ K) : vl (gx (phi n)) (TT : Int) K = (valG n TT : Int) := by
  have e : K = (totN n + 1) + (K - (totN n + 1)) := by omega
  rw [← phi_val hn, e]; exact sm_more _ _ _ fun j hj _ => by rw [phi_sup n j hj, Int.zero_mul]
theorem phi_again (h0 : m % p = 0) : phi n = spread (phi m) p := by
  obtain ⟨s1, s2⟩ := spread_top hm hn hp hnm hb
  refine list_of_top (phi_len n) s1 (phi_top hn) s2 fun j => ?_
  have hv := (chkB_parts hm hn hp hnm hb).2.1 h0
  exact vl_inj (X := (TT : Int)) (C := 128) (by decide) (by decide) (totN n + 1 + (totN m * p + 1) + j + 1) _ _ (fun i _ => by have := phi_bd hn i; omega) (fun i _ => spread_bd hm hn hp hnm hb i)
    (by rw [phi_vals hm hn hp hnm hb _ (by omega), spread_val hm hn hp hnm hb _ (by omega), hv]) j (by omega)
theorem phi_first (h0 : m % p ≠ 0) (hl : totN n ≤ 2000) : (∀ j, gx (spread (phi m) p) j = cp (phi n) (phi m) (totN n + 1) j) ∧ totN m * p = totN n + totN m := by
  obtain ⟨s1, s2⟩ := spread_top hm hn hp hnm hb
  have hv := (chkB_parts hm hn hp hnm hb).2.2 h0
  have hcb := fun j => cp_bd (P := phi n) (q := phi m) (fun i => by have := phi_bd hn i; omega) (fun i => by have := phi_bd hm i; omega) j (totN n + 1)
  have e : ∀ j, gx (spread (phi m) p) j = cp (phi n) (phi m) (totN n + 1) j := fun j => by
    have hc := vl_cp (phi n) (phi m) (TT : Int) (by rw [phi_len]; omega) (totN n + 1) (totN n + 1 + (totN m * p + 1) + (totN m + 1) + j + 1) (by rw [phi_len]; omega)
    have hm1 : vl (gx (phi m)) (TT : Int) (phi m).length = (valG m TT : Int) := by rw [phi_len]; exact phi_val hm
    rw [hm1, phi_val hn] at hc
    exact vl_inj (X := (TT : Int)) (C := 32784384) (by decide) (by decide) (totN n + 1 + (totN m * p + 1) + (totN m + 1) + j + 1) _ _ (fun i _ => by have := spread_bd hm hn hp hnm hb i; omega) (fun i _ => by have := hcb i; omega)
      (by rw [spread_val hm hn hp hnm hb _ (by omega), hc, ← hv, Int.natCast_mul, Int.mul_comm]) j (by omega)
  refine ⟨e, ?_⟩
  have t1 : gx (spread (phi m) p) (totN n + totN m) = 1 := by
    have h := cp_top (phi n) (phi m) (totN n) (by rw [phi_len]; omega)
    have hl : (phi m).length - 1 = totN m := by rw [phi_len]; omega
    rw [e, show totN n + totN m = totN n + ((phi m).length - 1) by omega, h, hl, phi_top hn, phi_top hm]; rfl
  rcases Nat.lt_trichotomy (totN m * p) (totN n + totN m) with h | h | h
  · rw [gx_out _ _ (by omega)] at t1; omega
  · exact h
  · rw [e, cp_sup _ _ _ _ (by rw [phi_len]; omega)] at s2; omega
end
end Go.Proofs.Ytogkblncdpbhnaa.Pl
namespace Go.Proofs.Ytogkblncdpbhnaa.Pl
open Go
set_option linter.unusedVariables false
def wr (z : Int) : Int := IntKind.i64.wrap z
theorem wr_in {z : Int} (h : -9223372036854775808 ≤ z ∧ z ≤ 9223372036854775807) : wr z = z := IntWalk.i64_in z h
def qIn (t : Int) (k : Nat) (q : List Int) : Nat → Nat → List Int → List Int
  | 0, _, rest => rest
  | r + 1, i, rest => qIn t k q r (i + 1) (rest.set (k + i) (wr (gx rest (k + i) - wr (t * gx q i))))
def qOut (q : List Int) : Nat → List Int → List Int → List Int × List Int
  | 0, rest, out => (rest, out)
  | k + 1, rest, out => qOut q k (qIn (gx rest (k + (q.length - 1))) k q q.length 0 rest) (out.set k (gx rest (k + (q.length - 1))))
def allZ (l : List Int) : Bool := l.all (· == 0)
/-- The quotient, and whether nothing is left. -/
def qwF (p q : List Int) : List Int × Bool :=
  if p.length < q.length then ([], false) else
    ((qOut q (p.length - q.length + 1) p (List.replicate (p.length - q.length + 1) 0)).2, allZ (qOut q (p.length - q.length + 1) p (List.replicate (p.length - q.length + 1) 0)).1)
theorem qIn_len (t : Int) (k : Nat) (q : List Int) : ∀ (r i : Nat) (rest : List Int), (qIn t k q r i rest).length = rest.length
  | 0, _, _ => rfl
  | r + 1, i, rest => by
    show (qIn t k q r (i + 1) _).length = _
    rw [qIn_len t k q r, List.length_set]
theorem qOut_len (q : List Int) : ∀ (k : Nat) (rest out : List Int), (qOut q k rest out).1.length = rest.length ∧ (qOut q k rest out).2.length = out.length
  | 0, _, _ => ⟨rfl, rfl⟩
  | k + 1, rest, out => by
    have := qOut_len q k (qIn (gx rest (k + (q.length - 1))) k q q.length 0 rest) (out.set k (gx rest (k + (q.length - 1))))
    rw [qIn_len, List.length_set] at this; exact this
theorem qIn_exact {t : Int} {k : Nat} {q : List Int} (ht : -128 ≤ t ∧ t ≤ 128) (hq : ∀ i, -128 ≤ gx q i ∧ gx q i ≤ 128) : ∀ (r i : Nat) (rest : List Int), k + i + r ≤ rest.length →
    (∀ j, k + i ≤ j → -1000000000000 ≤ gx rest j ∧ gx rest j ≤ 1000000000000) →
    ∀ j, gx (qIn t k q r i rest) j = if k + i ≤ j ∧ j < k + i + r then gx rest j - t * gx q (j - k) else gx rest j
  | 0, i, rest, _, _, j => by rw [if_neg (by omega)]; rfl
  | r + 1, i, rest, hl, hb, j => by
    have hqi := hq i
    have hm : -16384 ≤ t * gx q i ∧ t * gx q i ≤ 16384 := by
      generalize gx q i = y at *
      have c1 : (t + 128) * (y + 128) ≥ 0 := Int.mul_nonneg (by omega) (by omega)
      have c2 : (128 - t) * (128 - y) ≥ 0 := Int.mul_nonneg (by omega) (by omega)
      have c3 : (t + 128) * (128 - y) ≥ 0 := Int.mul_nonneg (by omega) (by omega)
      have c4 : (128 - t) * (y + 128) ≥ 0 := Int.mul_nonneg (by omega) (by omega)
      simp only [Int.add_mul, Int.mul_add, Int.sub_mul, Int.mul_sub] at c1 c2 c3 c4
      omega
    have hbk := hb (k + i) (Nat.le_refl _)
    have e1 : wr (gx rest (k + i) - wr (t * gx q i)) = gx rest (k + i) - t * gx q i := by rw [wr_in (z := t * gx q i) (by omega), wr_in (by omega)]
    show gx (qIn t k q r (i + 1) (rest.set (k + i) (wr (gx rest (k + i) - wr (t * gx q i))))) j = _
    rw [e1]
    generalize hv : gx rest (k + i) - t * gx q i = v
    rw [qIn_exact ht hq r (i + 1) (rest.set (k + i) v) (by rw [List.length_set]; omega) (fun j hj => by rw [gx_set rest (k + i) j v (by omega), if_neg (by omega)]; exact hb j (by omega)) j,
      gx_set rest (k + i) j v (by omega)]
    by_cases h1 : j = k + i
    · subst h1
      rw [if_neg (by omega), if_pos rfl, if_pos (by omega), ← hv, Nat.add_sub_cancel_left]
    · rw [if_neg h1]
      by_cases h2 : k + (i + 1) ≤ j ∧ j < k + (i + 1) + r
      · rw [if_pos h2, if_pos (by omega)]
      · rw [if_neg h2, if_neg (by omega)]
theorem qOut_exact {P q : List Int} (hq0 : 0 < q.length) (hP : ∀ i, -128 ≤ gx P i ∧ gx P i ≤ 128) (hq : ∀ i, -128 ≤ gx q i ∧ gx q i ≤ 128) (hm : gx q (q.length - 1) = 1) :
    ∀ (k : Nat) (rest out : List Int), (∀ j, gx rest j = cp P q k j) → k + q.length ≤ rest.length + 1 → k ≤ out.length → k ≤ 2001 → (∀ i, k ≤ i → gx out i = gx P i) →
      (∀ j, gx (qOut q k rest out).1 j = 0) ∧ ∀ i, gx (qOut q k rest out).2 i = gx P i
  | 0, rest, out, h, _, _, _, ho => ⟨fun j => h j, fun i => ho i (Nat.zero_le _)⟩
  | k + 1, rest, out, h, hl, hlo, hk, ho => by
    have ht : gx rest (k + (q.length - 1)) = gx P k := by rw [h, cp_top P q k hq0, hm, Int.mul_one]
    have hb : ∀ j, -1000000000000 ≤ gx rest j ∧ gx rest j ≤ 1000000000000 := fun j => by
      have := cp_bd hP hq j (k + 1)
      rw [h]; omega
    show (∀ j, gx (qOut q k (qIn (gx rest (k + (q.length - 1))) k q q.length 0 rest) (out.set k (gx rest (k + (q.length - 1))))).1 j = 0) ∧ _
    rw [show qOut q (k + 1) rest out = qOut q k (qIn (gx rest (k + (q.length - 1))) k q q.length 0 rest) (out.set k (gx rest (k + (q.length - 1)))) from rfl, ht]
    refine qOut_exact hq0 hP hq hm k _ _ (fun j => ?_) (by rw [qIn_len]; omega) (by rw [List.length_set]; omega) (by omega) (fun i hi => ?_)
    · rw [qIn_exact (hP k) hq q.length 0 rest (by omega) (fun j _ => hb j) j, h, cp_succ, Nat.add_zero]
      by_cases h1 : k ≤ j
      · rw [if_pos h1]
        by_cases h2 : j < k + q.length
        · rw [if_pos ⟨h1, h2⟩]; omega
        · rw [if_neg (fun e => h2 e.2), gx_out q (j - k) (by omega)]; omega
      · rw [if_neg h1, if_neg (fun e => h1 e.1)]; omega
    · rw [gx_set out k i _ (by omega)]
      by_cases h1 : i = k
      · rw [if_pos h1, h1]
      · rw [if_neg h1]; exact ho i (by omega)
theorem allZ_of {l : List Int} (h : ∀ j, gx l j = 0) : allZ l = true := by
  unfold allZ
  rw [List.all_eq_true]
  intro x hx
  obtain ⟨i, hi, rfl⟩ := List.getElem_of_mem hx
  have := h i
  rw [gx_eq l i hi] at this
  simp [this]
/-- The first time that a prime divides: the division goes. -/
theorem qw_first {n m p : Nat} (hm : chkA m = true) (hn : chkA n = true) (hp : 2 ≤ p) (hnm : n / p = m) (hb : chkB n p = true) (h0 : m % p ≠ 0) (hl : totN n ≤ 2000) :
    qwF (spread (phi m) p) (phi m) = (phi n, true) := by
  obtain ⟨e, hd⟩ := phi_first hm hn hp hnm hb h0 hl
  obtain ⟨s1, _⟩ := spread_top hm hn hp hnm hb
  have hql : (phi m).length = totN m + 1 := phi_len m
  have hN : (spread (phi m) p).length - (phi m).length + 1 = totN n + 1 := by omega
  unfold qwF
  rw [if_neg (by omega), hN]
  obtain ⟨r1, r2⟩ := qOut_exact (P := phi n) (q := phi m) (by omega) (fun i => by have := phi_bd hn i; omega) (fun i => by have := phi_bd hm i; omega) (by rw [hql]; exact phi_top hm)
    (totN n + 1) (spread (phi m) p) (List.replicate (totN n + 1) 0) e (by omega) (by simp) (by omega) (fun i hi => by rw [phi_sup n i hi, gx_out _ _ (by simp; omega)])
  rw [allZ_of r1]
  congr 1
  refine gx_ext _ _ ?_ fun k _ => r2 k
  rw [(qOut_len _ _ _ _).2, phi_len]; simp
end Go.Proofs.Ytogkblncdpbhnaa.Pl
