/-
  PLAIN LAWS, CHAPTER 1: what the functions on fractions and continued fractions compute, in plain Lean; no program in sight.
-/
namespace Go.Proofs.Ytogkblncdpbhnaa.Pl
set_option linter.unusedVariables false

/-! ### elements -/
/-- Element k of a list of numbers (0 behind its end). No reducible name: a walk must not look into it. -/
def gx (xs : List Int) (k : Nat) : Int := xs.getD k 0
theorem gx_eq (xs : List Int) (k : Nat) (h : k < xs.length) : gx xs k = xs[k] := by simp [gx, List.getD, h]
theorem gx_out (xs : List Int) (k : Nat) (h : xs.length ≤ k) : gx xs k = 0 := by simp [gx, List.getD, h]
theorem gx_mem (xs : List Int) (k : Nat) (h : k < xs.length) : gx xs k ∈ xs := by rw [gx_eq xs k h]; exact List.getElem_mem h
theorem gx_take (xs : List Int) (k j : Nat) (h : j < k) : gx (xs.take k) j = gx xs j := by simp [gx, List.getD, h]
theorem gx_ext (xs ys : List Int) (h : xs.length = ys.length) (e : ∀ k, k < xs.length → gx xs k = gx ys k) : xs = ys := by
  apply List.ext_getElem h
  intro k h1 h2
  rw [← gx_eq xs k h1, ← gx_eq ys k h2]
  exact e k h1
theorem take_snoc (xs : List Int) (k : Nat) (h : k < xs.length) : xs.take (k + 1) = xs.take k ++ [gx xs k] := by
  rw [List.take_succ_eq_append_getElem h, gx_eq xs k h]

theorem drop_gx (xs : List Int) (k : Nat) (h : k < xs.length) : xs.drop k = gx xs k :: xs.drop (k + 1) := by
  rw [List.drop_eq_getElem_cons h, gx_eq xs k h]

/-! ### ranges -/
def inR (n l m : Int) : Bool := decide (l ≤ n) && decide (n ≤ m)
theorem inR_true {n l m : Int} : inR n l m = true ↔ l ≤ n ∧ n ≤ m := by simp [inR]
theorem inR_false {n l m : Int} : inR n l m = false ↔ ¬ (l ≤ n ∧ n ≤ m) := by rw [← inR_true]; simp
def isInt (n : Int) : Bool := inR n (-1000000000) 1000000000
def isNat (n : Int) : Bool := inR n 1 1000000000
theorem isInt_true {n : Int} : isInt n = true ↔ -1000000000 ≤ n ∧ n ≤ 1000000000 := inR_true
theorem isNat_true {n : Int} : isNat n = true ↔ 1 ≤ n ∧ n ≤ 1000000000 := inR_true
theorem isInt_false {n : Int} : isInt n = false ↔ ¬ (-1000000000 ≤ n ∧ n ≤ 1000000000) := inR_false
theorem isNat_false {n : Int} : isNat n = false ↔ ¬ (1 ≤ n ∧ n ≤ 1000000000) := inR_false

/-! ### the greatest common divisor -/
def gcdI (a b : Int) : Int := (Int.gcd a b : Nat)
theorem gcdI_zero (a : Int) (h : 0 ≤ a) : gcdI a 0 = a := by simp [gcdI]; omega
theorem gcdI_step (a b : Int) (ha : 0 ≤ a) (hb : 0 < b) : gcdI b (a % b) = gcdI a b := by
  unfold gcdI; congr 1; rw [Int.gcd_comm a b]
  obtain ⟨m, rfl⟩ := Int.eq_ofNat_of_zero_le ha
  obtain ⟨n, rfl⟩ := Int.eq_ofNat_of_zero_le (Int.le_of_lt hb)
  rw [← Int.natCast_emod]
  simp only [Int.gcd_natCast_natCast]
  rw [Nat.gcd_comm n, ← Nat.gcd_rec]
def absI (n : Int) : Int := if n < 0 then -n else n
theorem absI_neg {n : Int} (h : n < 0) : absI n = -n := by simp [absI, h]
theorem absI_pos {n : Int} (h : ¬ n < 0) : absI n = n := by simp [absI, h]
theorem absI_bd (n : Int) (h : -9223372036854775807 ≤ n) (h' : n ≤ 9223372036854775807) : 0 ≤ absI n ∧ absI n ≤ 9223372036854775807 := by unfold absI; split <;> omega
theorem gcdI_absI (a b : Int) : gcdI (absI a) (absI b) = gcdI a b := by
  unfold gcdI absI; congr 1; split <;> split <;> simp
theorem gcdI_nonneg (a b : Int) : 0 ≤ gcdI a b := by unfold gcdI; omega
theorem gcdI_abs (a b : Int) : gcdI (if a < 0 then -a else a) (if b < 0 then -b else b) = gcdI a b := by
  unfold gcdI; congr 1; split <;> split <;> simp
theorem gcdI_le2 (a b m : Int) (ha : -m ≤ a) (ha' : a ≤ m) (hb : -m ≤ b) (hb' : b ≤ m) : gcdI a b ≤ m := by
  unfold gcdI
  by_cases h : b = 0
  · subst h; simp; omega
  · have : Int.gcd a b ≤ b.natAbs := Nat.le_of_dvd (by omega) (by unfold Int.gcd; exact Nat.gcd_dvd_right _ _)
    omega
theorem gcdI_le_right (a b : Int) (hb : 0 < b) : gcdI a b ≤ b := by
  unfold gcdI
  have : Int.gcd a b ≤ b.natAbs := Nat.le_of_dvd (by omega) (by unfold Int.gcd; exact Nat.gcd_dvd_right _ _)
  omega
theorem gcdI_pos (a b : Int) (hb : 0 < b) : 0 < gcdI a b := by
  unfold gcdI
  have : 0 < Int.gcd a b := Int.gcd_pos_of_ne_zero_right _ (by omega)
  omega
theorem gcdI_dvd_left (a b : Int) : gcdI a b ∣ a := Int.gcd_dvd_left ..
theorem gcdI_dvd_right (a b : Int) : gcdI a b ∣ b := Int.gcd_dvd_right ..

/-! ### the steps of Euclid -/
def steps (a b : Nat) : List (List Int) := if h : b = 0 then [] else [((a / b : Nat) : Int), (b : Int)] :: steps b (a % b)
  termination_by b
  decreasing_by exact Nat.mod_lt _ (by omega)
theorem steps_zero (a : Nat) : steps a 0 = [] := by rw [steps]; simp
theorem steps_pos (a b : Nat) (h : 0 < b) : steps a b = [((a / b : Nat) : Int), (b : Int)] :: steps b (a % b) := by rw [steps]; simp; omega
theorem steps_len : ∀ (n a b : Nat), b ≤ n → (steps a b).length ≤ b
  | 0, a, b, h => by obtain rfl : b = 0 := by omega
                     simp [steps_zero]
  | n + 1, a, b, h => by
    rcases Nat.eq_zero_or_pos b with h0 | h0
    · subst h0; simp [steps_zero]
    · have hm := Nat.mod_lt a h0
      rw [steps_pos a b h0]
      have := steps_len n b (a % b) (by omega)
      simp; omega
/-- Two steps halve: at most 2 k steps where b < 2 ^ k. -/
theorem steps_log : ∀ (k a b : Nat), b < 2 ^ k → (steps a b).length ≤ 2 * k
  | 0, a, b, h => by obtain rfl : b = 0 := by simp at h; omega
                     simp [steps_zero]
  | k + 1, a, b, h => by
    rcases Nat.eq_zero_or_pos b with h0 | h0
    · subst h0; simp [steps_zero]
    · rw [steps_pos a b h0]
      rcases Nat.eq_zero_or_pos (a % b) with h1 | h1
      · rw [h1]; simp [steps_zero]; omega
      · rw [steps_pos b (a % b) h1]
        have hm := Nat.mod_lt a h0
        have h2 : b % (a % b) < 2 ^ k := by
          have h3 := Nat.mod_lt b h1
          have h4 : b = (a % b) * (b / (a % b)) + b % (a % b) := (Nat.div_add_mod _ _).symm
          have h5 : 1 ≤ b / (a % b) := (Nat.le_div_iff_mul_le h1).2 (by omega)
          have h6 : (a % b) ≤ (a % b) * (b / (a % b)) := Nat.le_mul_of_pos_right _ h5
          rw [Nat.pow_succ] at h
          omega
        have := steps_log k (a % b) (b % (a % b)) h2
        simp; omega
/-- The first numbers. -/
def cf (a b : Nat) : List Int := (steps a b).map (fun s => s.getD 0 0)

/-! ### the value of a continued fraction -/
def fvGo : List Int → Int → Int → Option (Int × Int)
  | [], t, b => some (t, b)
  | q :: qs, t, b => if 1000000000 < q * t + b then none else fvGo qs (q * t + b) t
def okFv (xs : List Int) : Bool := xs.zipIdx.all fun p => inR p.1 (if p.2 = 0 then 0 else 1) 1000000000
def fv (xs : List Int) : Int × Int × Int :=
  if inR xs.length 1 64 && okFv xs then
    match fvGo (xs.take (xs.length - 1)).reverse (gx xs (xs.length - 1)) 1 with
    | none => (0, 0, 3)
    | some (t, b) => (t, b, 0)
  else (0, 0, 2)

/-! ### the value of a negative one -/
def nvGo : List Int → Int → Int → Option (Int × Int)
  | [], t, b => some (t, b)
  | q :: qs, t, b => if 1000000000 < q * t - b then none else nvGo qs (q * t - b) t
def okNv (xs : List Int) : Bool := xs.all fun q => inR q 2 1000000000
def nv (xs : List Int) : Int × Int × Int :=
  if inR xs.length 1 64 && okNv xs then
    match nvGo (xs.take (xs.length - 1)).reverse (gx xs (xs.length - 1)) 1 with
    | none => (0, 0, 3)
    | some (t, b) => (t, b, 0)
  else (0, 0, 2)

theorem take_rev (xs : List Int) (k : Nat) (h : k < xs.length) : (xs.take (k + 1)).reverse = gx xs k :: (xs.take k).reverse := by
  rw [take_snoc xs k h, List.reverse_append]; simp

theorem nv_len {xs : List Int} (h : ¬ (1 ≤ xs.length ∧ xs.length ≤ 64)) : nv xs = (0, 0, 2) := by
  unfold nv
  have : inR (xs.length : Int) 1 64 = false := inR_false.2 (by omega)
  rw [this]; simp
theorem nv_elem {xs : List Int} (k : Nat) (hk : k < xs.length) (h : inR (gx xs k) 2 1000000000 = false) : nv xs = (0, 0, 2) := by
  unfold nv
  have : okNv xs = false := by
    unfold okNv
    rw [List.all_eq_false]
    exact ⟨_, gx_mem xs k hk, by simp [h]⟩
  rw [this]; simp
def out3 : Option (Int × Int) → Int × Int × Int
  | none => (0, 0, 3)
  | some (t, b) => (t, b, 0)
theorem nv_run {xs : List Int} (h : 1 ≤ xs.length ∧ xs.length ≤ 64) (e : ∀ j, j < xs.length → inR (gx xs j) 2 1000000000 = true) :
    nv xs = out3 (nvGo (xs.take (xs.length - 1)).reverse (gx xs (xs.length - 1)) 1) := by
  unfold nv
  have h1 : inR (xs.length : Int) 1 64 = true := inR_true.2 (by omega)
  have h2 : okNv xs = true := by
    unfold okNv
    rw [List.all_eq_true]
    intro q hq
    obtain ⟨j, hj, rfl⟩ := List.getElem_of_mem hq
    rw [← gx_eq xs j hj]; exact e j hj
  rw [h1, h2]
  simp only [Bool.and_self, if_true]
  cases nvGo (xs.take (xs.length - 1)).reverse (gx xs (xs.length - 1)) 1 <;> rfl
theorem nvGo_step {xs : List Int} (k : Nat) (hk : k < xs.length) (t b : Int) : nvGo (xs.take (k + 1)).reverse t b = if 1000000000 < gx xs k * t - b then none else nvGo (xs.take k).reverse (gx xs k * t - b) t := by
  rw [take_rev xs k hk]; rfl
theorem fv_len {xs : List Int} (h : ¬ (1 ≤ xs.length ∧ xs.length ≤ 64)) : fv xs = (0, 0, 2) := by
  unfold fv
  have : inR (xs.length : Int) 1 64 = false := inR_false.2 (by omega)
  rw [this]; simp
def okQ (i : Nat) (q : Int) : Bool := inR q (if i = 0 then 0 else 1) 1000000000
theorem okFv_iff (xs : List Int) : okFv xs = true ↔ ∀ j, j < xs.length → okQ j (gx xs j) = true := by
  unfold okFv
  rw [List.all_eq_true]
  constructor
  · intro h j hj
    have := h (xs[j], j) (List.mem_zipIdx_iff_getElem?.2 (List.getElem?_eq_getElem hj))
    rw [gx_eq xs j hj]; exact this
  · rintro h ⟨q, i⟩ hp
    have he := List.mem_zipIdx_iff_getElem?.1 hp
    obtain ⟨hi, e⟩ := List.getElem?_eq_some_iff.1 he
    have := h i hi
    rw [gx_eq xs i hi] at this
    simp only at e
    rw [e] at this
    exact this
theorem fv_elem {xs : List Int} (k : Nat) (hk : k < xs.length) (h : okQ k (gx xs k) = false) : fv xs = (0, 0, 2) := by
  unfold fv
  have : okFv xs = false := by
    rw [Bool.eq_false_iff]; intro e
    rw [(okFv_iff xs).1 e k hk] at h; cases h
  rw [this]; simp
theorem fv_run {xs : List Int} (h : 1 ≤ xs.length ∧ xs.length ≤ 64) (e : ∀ j, j < xs.length → okQ j (gx xs j) = true) :
    fv xs = out3 (fvGo (xs.take (xs.length - 1)).reverse (gx xs (xs.length - 1)) 1) := by
  unfold fv
  have h1 : inR (xs.length : Int) 1 64 = true := inR_true.2 (by omega)
  rw [h1, (okFv_iff xs).2 e]
  simp only [Bool.and_self, if_true]
  cases fvGo (xs.take (xs.length - 1)).reverse (gx xs (xs.length - 1)) 1 <;> rfl
theorem fvGo_step {xs : List Int} (k : Nat) (hk : k < xs.length) (t b : Int) : fvGo (xs.take (k + 1)).reverse t b = if 1000000000 < gx xs k * t + b then none else fvGo (xs.take k).reverse (gx xs k * t + b) t := by
  rw [take_rev xs k hk]; rfl
theorem okQ_bd {i : Nat} {q : Int} (h : okQ i q = true) : 0 ≤ q ∧ q ≤ 1000000000 := by
  unfold okQ at h
  have := inR_true.1 h
  split at this <;> omega
theorem okQ_no {i : Nat} {q : Int} (h : okQ i q = false) : isInt q = false ∨ (isInt q = true ∧ q < 0) ∨ (isInt q = true ∧ 0 < i ∧ 0 ≤ q ∧ q < 1) := by
  unfold okQ at h
  have := inR_false.1 h
  by_cases hq : isInt q = true
  · right
    have hb := isInt_true.1 hq
    split at this
    · left; exact ⟨hq, by omega⟩
    · by_cases h0 : q < 0
      · left; exact ⟨hq, h0⟩
      · right; exact ⟨hq, by omega, by omega, by omega⟩
  · left; simpa using hq
theorem okQ_yes {i : Nat} {q : Int} (h : okQ i q = true) : (isInt q = true ∧ 0 ≤ q ∧ i < 1) ∨ (isInt q = true ∧ 0 ≤ q ∧ 0 < i ∧ 1 ≤ q) := by
  unfold okQ at h
  have := inR_true.1 h
  have hI : isInt q = true := isInt_true.2 (by split at this <;> omega)
  split at this
  · left; exact ⟨hI, by omega, by omega⟩
  · right; exact ⟨hI, by omega, by omega, by omega⟩
/-- A product's bounds. -/
theorem mul_bd {q t c : Int} (h1 : c ≤ q) (h2 : q ≤ 1000000000) (h3 : 0 ≤ t) (h4 : t ≤ 1000000000) (hc : 0 ≤ c) : c * t ≤ q * t ∧ q * t ≤ 1000000000000000000 ∧ 0 ≤ q * t := by
  refine ⟨Int.mul_le_mul_of_nonneg_right h1 h3, ?_, Int.mul_nonneg (by omega) h3⟩
  calc q * t ≤ 1000000000 * t := Int.mul_le_mul_of_nonneg_right h2 h3
    _ ≤ 1000000000000000000 := by omega

theorem mul_bd2 (x y : Int) (h1 : -1000000000 ≤ x) (h2 : x ≤ 1000000000) (h3 : -1000000000 ≤ y) (h4 : y ≤ 1000000000) : -1000000000000000000 ≤ x * y ∧ x * y ≤ 1000000000000000000 := by
  have h : (x * y).natAbs ≤ 1000000000 * 1000000000 := by
    rw [Int.natAbs_mul]; exact Nat.mul_le_mul (by omega) (by omega)
  omega
theorem mul_pos2 (x y : Int) (h1 : 1 ≤ x) (h2 : 1 ≤ y) : 1 ≤ x * y := by
  have := Int.mul_pos (show 0 < x by omega) (show 0 < y by omega); omega

/-! ### negative continued fractions -/
def ceilN (a b : Nat) : Nat := (a + b - 1) / b
def nf : Nat → Nat → Nat → Option (List Int)
  | 0, _, b => if b = 0 then some [] else none
  | n + 1, a, b => if b = 0 then some [] else (nf n b (ceilN a b * b - a)).map ((ceilN a b : Int) :: ·)
theorem ceilN_spec (a b : Nat) (h : 0 < b) : a ≤ ceilN a b * b ∧ ceilN a b * b < a + b := by
  unfold ceilN
  have h1 := Nat.div_add_mod (a + b - 1) b
  have h2 := Nat.mod_lt (a + b - 1) h
  rw [Nat.mul_comm] at h1
  constructor
  · omega
  · omega

theorem ceilN_cast (x y : Nat) (h : 0 < y) : ((x : Int) + (y : Int) - 1) / (y : Int) = ((ceilN x y : Nat) : Int) := by
  unfold ceilN
  rw [Int.natCast_ediv]
  congr 1
  omega
theorem nf_zero (n x : Nat) : nf n x 0 = some [] := by cases n <;> simp [nf]
theorem nf_end (x y : Nat) (h : 0 < y) : nf 0 x y = none := by simp [nf]; omega
theorem nf_step (n x y : Nat) (h : 0 < y) : nf (n + 1) x y = (nf n y (ceilN x y * y - x)).map ((ceilN x y : Int) :: ·) := by
  rw [nf, if_neg (by omega)]
theorem nf_acc (acc : List Int) (n x y : Nat) (h : 0 < y) : (nf (n + 1) x y).map (acc ++ ·) = (nf n y (ceilN x y * y - x)).map ((acc ++ [(ceilN x y : Int)]) ++ ·) := by
  rw [nf_step n x y h]
  cases nf n y (ceilN x y * y - x) <;> simp
theorem nf_len : ∀ (n x y : Nat) (l : List Int), nf n x y = some l → l.length ≤ n
  | 0, x, y, l, h => by
    unfold nf at h
    split at h
    · cases h; simp
    · cases h
  | n + 1, x, y, l, h => by
    by_cases h0 : y = 0
    · subst h0; rw [nf_zero] at h; cases h; simp
    · rw [nf_step n x y (by omega)] at h
      rcases hn : nf n y (ceilN x y * y - x) with _ | l'
      · rw [hn] at h; cases h
      · rw [hn] at h
        have := nf_len n _ _ _ hn
        cases h
        simp; omega
def negOut : Option (List Int) → List Int × Int
  | none => ([], 3)
  | some l => (l, 0)
def negF (a b : Int) : List Int × Int :=
  if isNat a && isNat b && decide (b < a) then (if gcdI a b = 1 then negOut (nf 1000 a.toNat b.toNat) else ([], 5)) else ([], 2)
theorem negF_len (a b : Int) : (negF a b).1.length ≤ 1000 := by
  unfold negF
  split
  · split
    · rcases h : nf 1000 a.toNat b.toNat with _ | l
      · simp [negOut]
      · simp [negOut]; exact nf_len _ _ _ _ h
    · simp
  · simp

/-! ### fractions -/
def isFr (t b : Int) : Bool := isInt t && isNat b && (gcdI t b == 1)
theorem isFr_bd {t b : Int} (h : isFr t b = true) : (-1000000000 ≤ t ∧ t ≤ 1000000000) ∧ 1 ≤ b ∧ b ≤ 1000000000 := by
  unfold isFr at h
  simp only [Bool.and_eq_true] at h
  exact ⟨isInt_true.1 h.1.1, isNat_true.1 h.1.2⟩
def sgn (a b : Int) : Int := if b < 0 then -a else a
def redT (a b : Int) : Int := (sgn a b).tdiv (gcdI a b)
def redB (a b : Int) : Int := (sgn b b).tdiv (gcdI a b)
theorem tdiv_neg_neg (a g : Int) : a.tdiv (-g) = (-a).tdiv g := by rw [Int.tdiv_neg, Int.neg_tdiv]
theorem gcdI_pos' (a b : Int) (hb : b ≠ 0) : 0 < gcdI a b := by
  unfold gcdI
  have : 0 < Int.gcd a b := Int.gcd_pos_of_ne_zero_right _ hb
  omega
theorem red_coprime (a b : Int) (hb : b ≠ 0) : gcdI (redT a b) (redB a b) = 1 := by
  have hg := gcdI_pos' a b hb
  have h1 : gcdI a b ∣ sgn a b := by unfold sgn; split; exact Int.dvd_neg.2 (gcdI_dvd_left a b); exact gcdI_dvd_left a b
  have h2 : gcdI a b ∣ sgn b b := by unfold sgn; split; exact Int.dvd_neg.2 (gcdI_dvd_right a b); exact gcdI_dvd_right a b
  unfold redT redB
  rw [Int.tdiv_eq_ediv_of_dvd h1, Int.tdiv_eq_ediv_of_dvd h2]
  have e : gcdI a b = (Int.gcd (sgn a b) (sgn b b) : Nat) := by
    unfold gcdI sgn; split <;> simp
  rw [e]
  unfold gcdI
  rw [Int.gcd_ediv_gcd_ediv_gcd]
  · rfl
  · rw [e] at hg; omega
theorem tdiv_bd (x y : Int) (h : -9223372036854775807 ≤ x) (h' : x ≤ 9223372036854775807) (hy : 1 ≤ y) : -9223372036854775807 ≤ x.tdiv y ∧ x.tdiv y ≤ 9223372036854775807 := by
  have h1 : (x.tdiv y).natAbs ≤ x.natAbs := by rw [Int.natAbs_tdiv]; exact Nat.div_le_self _ _
  omega
theorem sgn_bd (a b : Int) (h : -9223372036854775807 ≤ a) (h' : a ≤ 9223372036854775807) : -9223372036854775807 ≤ sgn a b ∧ sgn a b ≤ 9223372036854775807 := by unfold sgn; split <;> omega
theorem sgn_self_pos (b : Int) (h : b ≠ 0) : 0 < sgn b b := by unfold sgn; split <;> omega
theorem gcdI_sgn (a b : Int) : gcdI (sgn a b) (sgn b b) = gcdI a b := by unfold gcdI sgn; congr 1; split <;> simp
theorem redB_eq (a b : Int) (h : b ≠ 0) : redB a b = sgn b b / gcdI a b := by
  have := sgn_self_pos b h
  unfold redB; exact Int.tdiv_eq_ediv_of_nonneg (by omega)
theorem gcdI_le (a b : Int) (h : b ≠ 0) (h1 : -9223372036854775807 ≤ b) (h2 : b ≤ 9223372036854775807) : 1 ≤ gcdI a b ∧ gcdI a b ≤ 9223372036854775807 := by
  have h3 := gcdI_pos' a b h
  have h4 := gcdI_le_right (sgn a b) (sgn b b) (sgn_self_pos b h)
  rw [gcdI_sgn] at h4
  have := sgn_bd b b h1 h2
  omega
/-- As the reference has it: the sign goes into the divisor. -/
theorem redT_neg (a b : Int) (h : b < 0) : a.tdiv (-(gcdI a b)) = redT a b := by unfold redT sgn; rw [if_pos h, tdiv_neg_neg]
theorem redB_neg (a b : Int) (h : b < 0) : b.tdiv (-(gcdI a b)) = redB a b := by unfold redB sgn; rw [if_pos h, tdiv_neg_neg]
theorem redT_pos (a b : Int) (h : ¬ b < 0) : a.tdiv (gcdI a b) = redT a b := by unfold redT sgn; rw [if_neg h]
theorem redB_pos (a b : Int) (h : ¬ b < 0) : b.tdiv (gcdI a b) = redB a b := by unfold redB sgn; rw [if_neg h]
theorem redB_bd (a b : Int) (h : b ≠ 0) (h1 : -9223372036854775807 ≤ b) (h2 : b ≤ 9223372036854775807) : 1 ≤ redB a b ∧ redB a b ≤ 9223372036854775807 := by
  rw [redB_eq a b h]
  have hs := sgn_self_pos b h
  have hg := gcdI_pos' a b h
  have hd : gcdI a b ∣ sgn b b := by unfold sgn; split; exact Int.dvd_neg.2 (gcdI_dvd_right a b); exact gcdI_dvd_right a b
  have hl := Int.le_of_dvd hs hd
  have hb := sgn_bd b b h1 h2
  constructor
  · have := Int.ediv_pos_of_pos_of_dvd hs (by omega) hd
    omega
  · have := Int.ediv_le_self (gcdI a b) (show 0 ≤ sgn b b by omega)
    omega
def fits (t b : Int) : Int × Int × Int := if isInt t && isNat b then (t, b, 0) else (0, 0, 3)
def mkF (a b : Int) : Int × Int × Int := if isInt a && isInt b then (if b = 0 then (0, 0, 5) else (redT a b, redB a b, 0)) else (0, 0, 2)
def addF (t b u c : Int) : Int × Int × Int := if isFr t b && isFr u c then fits (redT (t * c + u * b) (b * c)) (redB (t * c + u * b) (b * c)) else (0, 0, 1)
def mulF (t b u c : Int) : Int × Int × Int := if isFr t b && isFr u c then fits (redT (t * u) (b * c)) (redB (t * u) (b * c)) else (0, 0, 1)
def cmpI (a b : Int) : Int := if a < b then -1 else if b < a then 1 else 0
def cmpF (t b u c : Int) : Int × Int := if isFr t b && isFr u c then (cmpI (t * c) (u * b), 0) else (0, 1)
def cdv (a b : Int) : Int × Int := if isInt a && isInt b then (gcdI a b, 0) else (0, 2)
def cdvL (d : Int) : List Int → Int × Int
  | [] => (d, 0)
  | n :: ns => if isInt n then cdvL (gcdI d n) ns else (0, 2)
def cdvOf (xs : List Int) : Int × Int := if 64 < xs.length then (0, 2) else cdvL 0 xs

/-! ### what FnEuclid says -/
/-- The sum of all q r r. -/
def qrr (l : List (List Int)) : Int := (l.map fun s => s.getD 0 0 * s.getD 1 0 * s.getD 1 0).sum
theorem steps_qrr : ∀ (n a b : Nat), b ≤ n → qrr (steps a b) = (a : Int) * b
  | 0, a, b, h => by obtain rfl : b = 0 := by omega
                     simp [steps_zero, qrr]
  | n + 1, a, b, h => by
    rcases Nat.eq_zero_or_pos b with h0 | h0
    · subst h0; simp [steps_zero, qrr]
    · have hm := Nat.mod_lt a h0
      rw [steps_pos a b h0]
      have ih := steps_qrr n b (a % b) (by omega)
      have hd := Nat.div_add_mod a b
      simp only [qrr, List.map_cons, List.sum_cons] at ih ⊢
      rw [ih]
      have hd' : (a : Int) = (b : Int) * ((a / b : Nat) : Int) + ((a % b : Nat) : Int) := by exact_mod_cast hd.symm
      generalize ((a / b : Nat) : Int) = q at *
      generalize ((a % b : Nat) : Int) = r at *
      rw [hd']
      simp [List.getD]
      rw [Int.add_mul, Int.mul_comm (b : Int) q, Int.mul_comm r]
theorem steps_shape : ∀ (n a b : Nat), b ≤ n → ∀ s ∈ steps a b, ∃ q r : Int, s = [q, r] ∧ 0 ≤ q ∧ 1 ≤ r ∧ q ≤ max a b ∧ r ≤ b
  | 0, a, b, h => by obtain rfl : b = 0 := by omega
                     simp [steps_zero]
  | n + 1, a, b, h => by
    rcases Nat.eq_zero_or_pos b with h0 | h0
    · subst h0; simp [steps_zero]
    · have hm := Nat.mod_lt a h0
      rw [steps_pos a b h0]
      intro s hs
      rcases List.mem_cons.1 hs with rfl | hs
      · have hq := Nat.div_le_self a b
        generalize a / b = q at hq
        exact ⟨_, _, rfl, by omega, by omega, by omega, by omega⟩
      · obtain ⟨q, r, e, h1, h2, h3, h4⟩ := steps_shape n b (a % b) (by omega) s hs
        exact ⟨q, r, e, h1, h2, by omega, by omega⟩

/-- The value of a continued fraction as a pair. -/
def V : List Int → Int × Int
  | [] => (1, 0)
  | q :: qs => (q * (V qs).1 + (V qs).2, (V qs).1)
theorem fvGo_V' : ∀ (r suf : List Int), (∀ s : List Int, s ≠ [] → (∃ p, p ++ s = r.reverse ++ suf) → (V s).1 ≤ 1000000000) →
    fvGo r (V suf).1 (V suf).2 = some (V (r.reverse ++ suf))
  | [], suf, _ => by simp [fvGo]
  | q :: r, suf, h => by
    have hb := h (q :: suf) (by simp) ⟨r.reverse, by simp⟩
    simp only [V] at hb
    simp only [fvGo]
    rw [if_neg (by omega)]
    have e := fvGo_V' r (q :: suf) (by simpa using h)
    simp only [V] at e
    rw [e]
    simp
theorem fvGo_V (pre suf : List Int) (h : ∀ s : List Int, s ≠ [] → (∃ p, p ++ s = pre ++ suf) → (V s).1 ≤ 1000000000) :
    fvGo pre.reverse (V suf).1 (V suf).2 = some (V (pre ++ suf)) := by
  have := fvGo_V' pre.reverse suf (by simpa using h)
  simpa using this
theorem cf_zero (a : Nat) : cf a 0 = [] := by simp [cf, steps_zero]
theorem cf_pos (a b : Nat) (h : 0 < b) : cf a b = ((a / b : Nat) : Int) :: cf b (a % b) := by
  simp [cf, steps_pos a b h, List.getD]
theorem V_cf : ∀ (n a b : Nat), b ≤ n → (0 < a ∨ 0 < b) → (V (cf a b)).1 * gcdI a b = a ∧ (V (cf a b)).2 * gcdI a b = b ∧ 0 ≤ (V (cf a b)).1 ∧ 0 ≤ (V (cf a b)).2
  | 0, a, b, h, hab => by
    obtain rfl : b = 0 := by omega
    simp [cf_zero, V, gcdI]
  | n + 1, a, b, h, hab => by
    rcases Nat.eq_zero_or_pos b with h0 | h0
    · subst h0
      simp [cf_zero, V, gcdI]
    · have hm := Nat.mod_lt a h0
      rw [cf_pos a b h0]
      obtain ⟨i1, i2, i3, i4⟩ := V_cf n b (a % b) (by omega) (.inl h0)
      have hg : gcdI b ((a % b : Nat) : Int) = gcdI a b := by
        have := gcdI_step a b (by omega) (by omega)
        rw [← this]; rfl
      rw [hg] at i1 i2
      have hd : (a : Int) = (b : Int) * ((a / b : Nat) : Int) + ((a % b : Nat) : Int) := by exact_mod_cast (Nat.div_add_mod a b).symm
      simp only [V]
      refine ⟨?_, i1, Int.add_nonneg (Int.mul_nonneg (Int.natCast_nonneg _) i3) i4, i3⟩
      rw [Int.add_mul, Int.mul_assoc, i1, i2, Int.mul_comm _ (b : Int)]
      exact hd.symm
theorem V_le (a b : Nat) (h : 0 < a ∨ 0 < b) : (V (cf a b)).1 ≤ a ∧ (V (cf a b)).2 ≤ b := by
  obtain ⟨h1, h2, h3, h4⟩ := V_cf b a b (Nat.le_refl _) h
  have hg : 1 ≤ gcdI a b := by
    unfold gcdI
    have : 0 < Int.gcd a b := by
      rcases h with h | h
      · exact Int.gcd_pos_of_ne_zero_left _ (by omega)
      · exact Int.gcd_pos_of_ne_zero_right _ (by omega)
    omega
  constructor
  · calc (V (cf a b)).1 = (V (cf a b)).1 * 1 := by omega
      _ ≤ (V (cf a b)).1 * gcdI a b := Int.mul_le_mul_of_nonneg_left hg h3
      _ = a := h1
  · calc (V (cf a b)).2 = (V (cf a b)).2 * 1 := by omega
      _ ≤ (V (cf a b)).2 * gcdI a b := Int.mul_le_mul_of_nonneg_left hg h4
      _ = b := h2
theorem V_suffix : ∀ (n a b : Nat), b ≤ n → 0 < b → ∀ (p s : List Int), s ≠ [] → p ++ s = cf a b → (V s).1 ≤ max a b
  | 0, a, b, h, h0, p, s, hs, e => by omega
  | n + 1, a, b, h, h0, p, s, hs, e => by
    have hm := Nat.mod_lt a h0
    cases p with
    | nil =>
      simp only [List.nil_append] at e
      subst e
      have := V_le a b (.inr h0)
      omega
    | cons x p =>
      rw [cf_pos a b h0] at e
      simp only [List.cons_append, List.cons.injEq] at e
      rcases Nat.eq_zero_or_pos (a % b) with h1 | h1
      · rw [h1, cf_zero] at e
        have := List.append_eq_nil_iff.1 e.2
        exact absurd this.2 hs
      · have := V_suffix n b (a % b) (by omega) h1 p s hs e.2
        omega
theorem cf_len (a b : Nat) (hb : 0 < b) (h : b ≤ 1000000000) : 1 ≤ (cf a b).length ∧ (cf a b).length ≤ 64 := by
  refine ⟨?_, ?_⟩
  · rw [cf_pos a b hb]; simp
  · have := steps_log 30 a b (by omega)
    simp [cf]; omega
theorem cf_range : ∀ (n a b : Nat), b ≤ n → ∀ (i : Nat) (q : Int), (cf a b)[i]? = some q → 0 ≤ q ∧ q ≤ max a b ∧ (b ≤ a ∨ 0 < i → 1 ≤ q)
  | 0, a, b, h, i, q, e => by
    obtain rfl : b = 0 := by omega
    simp [cf_zero] at e
  | n + 1, a, b, h, i, q, e => by
    rcases Nat.eq_zero_or_pos b with h0 | h0
    · subst h0; simp [cf_zero] at e
    · have hm := Nat.mod_lt a h0
      rw [cf_pos a b h0] at e
      cases i with
      | zero =>
        simp at e
        subst e
        have h1 := Nat.div_le_self a b
        refine ⟨Int.ediv_nonneg (by omega) (by omega), ?_, fun h2 => ?_⟩
        · have : ((a / b : Nat) : Int) ≤ a := by omega
          rw [Int.natCast_ediv] at this
          omega
        · have h3 : 1 ≤ a / b := (Nat.le_div_iff_mul_le h0).2 (by omega)
          have : (1 : Int) ≤ ((a / b : Nat) : Int) := by omega
          rw [Int.natCast_ediv] at this
          exact this
      | succ i =>
        simp at e
        obtain ⟨h1, h2, h3⟩ := cf_range n b (a % b) (by omega) i q e
        exact ⟨h1, by omega, fun _ => h3 (.inl (by omega))⟩
theorem okFv_cf (a b : Nat) (ha : a ≤ 1000000000) (hb : b ≤ 1000000000) : okFv (cf a b) = true := by
  unfold okFv
  rw [List.all_eq_true]
  rintro ⟨q, i⟩ hp
  have he := List.mem_zipIdx_iff_getElem?.1 hp
  obtain ⟨h1, h2, h3⟩ := cf_range b a b (Nat.le_refl _) i q he
  simp only [inR_true]
  by_cases h0 : i = 0
  · subst h0; simp; omega
  · have := h3 (.inr (by omega))
    simp [h0]; omega
theorem fv_cf (a b : Nat) (h0 : 0 < b) (ha : a ≤ 1000000000) (hb : b ≤ 1000000000) : fv (cf a b) = ((V (cf a b)).1, (V (cf a b)).2, 0) := by
  have hl := cf_len a b h0 hb
  have h1 : inR ((cf a b).length : Int) 1 64 = true := inR_true.2 (by omega)
  unfold fv
  rw [h1, okFv_cf a b ha hb]
  simp only [Bool.and_self, if_true]
  obtain ⟨pre, last, he⟩ : ∃ pre last, cf a b = pre ++ [last] := by
    rcases List.eq_nil_or_concat (cf a b) with h | ⟨p, l, h⟩
    · rw [h] at hl; simp at hl
    · exact ⟨p, l, by simpa using h⟩
  have e1 : ((cf a b).take ((cf a b).length - 1)) = pre := by rw [he]; simp
  have e2 : gx (cf a b) ((cf a b).length - 1) = last := by rw [he]; simp [gx, List.getD]
  rw [e1, e2]
  have hV := fvGo_V pre [last] (fun s hs ⟨p, hp⟩ => by
    rw [← he] at hp
    have := V_suffix b a b (Nat.le_refl _) h0 p s hs hp
    omega)
  simp only [V, Int.mul_one, Int.add_zero] at hV
  rw [hV, ← he]

/-! ### negative continued fractions back to their fractions -/
def Wv : List Int → Int × Int
  | [] => (1, 0)
  | q :: qs => (q * (Wv qs).1 - (Wv qs).2, (Wv qs).1)
theorem nvGo_W' : ∀ (r suf : List Int), (∀ s : List Int, s ≠ [] → (∃ p, p ++ s = r.reverse ++ suf) → (Wv s).1 ≤ 1000000000) →
    nvGo r (Wv suf).1 (Wv suf).2 = some (Wv (r.reverse ++ suf))
  | [], suf, _ => by simp [nvGo]
  | q :: r, suf, h => by
    have hb := h (q :: suf) (by simp) ⟨r.reverse, by simp⟩
    simp only [Wv] at hb
    simp only [nvGo]
    rw [if_neg (by omega)]
    have e := nvGo_W' r (q :: suf) (by simpa using h)
    simp only [Wv] at e
    rw [e]
    simp
theorem nvGo_W (pre suf : List Int) (h : ∀ s : List Int, s ≠ [] → (∃ p, p ++ s = pre ++ suf) → (Wv s).1 ≤ 1000000000) :
    nvGo pre.reverse (Wv suf).1 (Wv suf).2 = some (Wv (pre ++ suf)) := by
  have := nvGo_W' pre.reverse suf (by simpa using h)
  simpa using this
theorem gcd_neg_step (a b q : Nat) (h : a ≤ q * b) (hg : Nat.gcd a b = 1) : Nat.gcd b (q * b - a) = 1 := by
  have h1 : Nat.gcd b (q * b - a) ∣ b := Nat.gcd_dvd_left _ _
  have h2 : Nat.gcd b (q * b - a) ∣ q * b - a := Nat.gcd_dvd_right _ _
  have h3 : Nat.gcd b (q * b - a) ∣ a := by
    have h4 : Nat.gcd b (q * b - a) ∣ q * b := Nat.dvd_trans h1 (Nat.dvd_mul_left _ _)
    have h5 := Nat.dvd_sub h4 h2
    rwa [show q * b - (q * b - a) = a by omega] at h5
  have := Nat.dvd_gcd h3 h1
  rw [hg] at this
  exact Nat.eq_one_of_dvd_one this
theorem nf_spec : ∀ (n a b : Nat) (l : List Int), nf n a b = some l → b < a → Nat.gcd a b = 1 →
    (Wv l).1 = a ∧ (Wv l).2 = b ∧ (∀ q ∈ l, 2 ≤ q ∧ q ≤ a) ∧ (∀ p s, s ≠ [] → p ++ s = l → (Wv s).1 ≤ a) ∧ (0 < b → l ≠ [])
  | 0, a, b, l, h, hab, hg => by
    unfold nf at h
    split at h
    · rename_i h0
      subst h0
      have : a = 1 := by simpa using hg
      cases h
      simp [Wv, this]
      intro p s hs h1 h2
      exact absurd h2 hs
    · cases h
  | n + 1, a, b, l, h, hab, hg => by
    unfold nf at h
    split at h
    · rename_i h0
      subst h0
      have : a = 1 := by simpa using hg
      cases h
      simp [Wv, this]
      intro p s hs h1 h2
      exact absurd h2 hs
    · rename_i h0
      obtain ⟨c1, c2⟩ := ceilN_spec a b (by omega)
      generalize hc : ceilN a b = q at *
      rcases hn : nf n b (q * b - a) with _ | l'
      · rw [hn] at h; cases h
      · rw [hn] at h
        simp only [Option.map_some, Option.some.injEq] at h
        subst h
        obtain ⟨i1, i2, i3, i4, i5⟩ := nf_spec n b (q * b - a) l' hn (by omega) (gcd_neg_step a b q c1 hg)
        have hq2 : 2 ≤ q := by
          rcases Nat.lt_or_ge q 2 with h | h
          · have : q * b ≤ 1 * b := Nat.mul_le_mul_right _ (by omega)
            omega
          · exact h
        have hqa : q ≤ a := by
          rw [← hc]; unfold ceilN
          have := Nat.div_le_self (a + b - 1) b
          have h3 : (a + b - 1) / b ≤ a := by
            rw [Nat.div_le_iff_le_mul_add_pred (by omega)]
            have : a ≤ a * b := Nat.le_mul_of_pos_right _ (by omega)
            rw [Nat.mul_comm] at this
            omega
          exact h3
        have e1 : (Wv ((q : Int) :: l')).1 = a := by
          simp only [Wv, i1, i2]
          rw [Int.natCast_sub c1, Int.natCast_mul]; omega
        refine ⟨e1, by simp only [Wv]; exact i1, ?_, ?_, fun _ => by simp⟩
        · intro x hx
          rcases List.mem_cons.1 hx with rfl | hx
          · omega
          · have := i3 x hx; omega
        · intro p s hs e
          cases p with
          | nil => simp only [List.nil_append] at e; subst e; omega
          | cons y p =>
            simp only [List.cons_append, List.cons.injEq] at e
            have := i4 p s hs e.2
            omega
theorem nv_nf (n a b : Nat) (l : List Int) (h : nf n a b = some l) (hb : 0 < b) (hab : b < a) (ha : a ≤ 1000000000) (hg : Nat.gcd a b = 1) (hl : l.length ≤ 64) : nv l = ((a : Int), (b : Int), 0) := by
  obtain ⟨i1, i2, i3, i4, i5⟩ := nf_spec n a b l h hab hg
  have hne := i5 hb
  have h1 : inR (l.length : Int) 1 64 = true := inR_true.2 (by
    have : 0 < l.length := List.length_pos_iff.2 hne
    omega)
  have h2 : okNv l = true := by
    unfold okNv
    rw [List.all_eq_true]
    intro q hq
    have := i3 q hq
    exact inR_true.2 (by omega)
  unfold nv
  rw [h1, h2]
  simp only [Bool.and_self, if_true]
  obtain ⟨pre, last, he⟩ : ∃ pre last, l = pre ++ [last] := by
    rcases List.eq_nil_or_concat l with h | ⟨p, l', h⟩
    · exact absurd h hne
    · exact ⟨p, l', by simpa using h⟩
  have e1 : (l.take (l.length - 1)) = pre := by rw [he]; simp
  have e2 : gx l (l.length - 1) = last := by rw [he]; simp [gx, List.getD]
  rw [e1, e2]
  have hV := nvGo_W pre [last] (fun s hs ⟨p, hp⟩ => by
    rw [← he] at hp
    have := i4 p s hs hp
    omega)
  simp only [Wv, Int.mul_one, Int.sub_zero] at hV
  rw [hV, ← he]
  show ((Wv l).1, (Wv l).2, (0 : Int)) = _
  rw [i1, i2]
end Go.Proofs.Ytogkblncdpbhnaa.Pl
