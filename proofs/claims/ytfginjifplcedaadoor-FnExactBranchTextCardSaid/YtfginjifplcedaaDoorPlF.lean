/-
  PLAIN LAWS, CHAPTER 3: truncations, branches of exponents, turned characteristics; no program in sight.
-/
import Derived.Test.YtfginjifplcedaaDoorPlE
namespace Go.Proofs.YtfginjifplcedaaDoor.Pl
set_option linter.unusedVariables false
theorem dvd_gcdI {a b c : Int} (h1 : c ∣ a) (h2 : c ∣ b) : c ∣ gcdI a b := by
  unfold gcdI; exact Int.dvd_coe_gcd h1 h2
theorem eq_of_dvd_dvd {a b : Int} (ha : 0 ≤ a) (hb : 0 ≤ b) (h1 : a ∣ b) (h2 : b ∣ a) : a = b := Int.dvd_antisymm ha hb h1 h2
theorem gcdI_eq_left {a b : Int} (ha : 0 ≤ a) (h : a ∣ b) : gcdI a b = a :=
  eq_of_dvd_dvd (gcdI_nonneg _ _) ha (gcdI_dvd_left a b) (dvd_gcdI (Int.dvd_refl a) h)
theorem gcdI_add {a b c : Int} (h : a ∣ c) : gcdI a (b + c) = gcdI a b := by
  refine eq_of_dvd_dvd (gcdI_nonneg _ _) (gcdI_nonneg _ _) ?_ ?_
  · have h1 := gcdI_dvd_left a (b + c)
    refine dvd_gcdI h1 ?_
    have h2 := gcdI_dvd_right a (b + c)
    have h3 := Int.dvd_sub h2 (Int.dvd_trans h1 h)
    have e : b + c - c = b := by omega
    rwa [e] at h3
  · have h1 := gcdI_dvd_left a b
    exact dvd_gcdI h1 (Int.dvd_add (gcdI_dvd_right a b) (Int.dvd_trans h1 h))
theorem gcdI_comm (a b : Int) : gcdI a b = gcdI b a := by unfold gcdI; rw [Int.gcd_comm]
theorem gcdI_ne_iff {a b : Int} (ha : 1 ≤ a) : gcdI a b ≠ a ↔ b % a ≠ 0 := by
  constructor
  · intro h e; exact h (gcdI_eq_left (by omega) (Int.dvd_of_emod_eq_zero e))
  · intro h e
    have := gcdI_dvd_right a b
    rw [e] at this
    exact h (Int.emod_eq_zero_of_dvd this)
theorem gx_append (xs ys : List Int) (j : Nat) : gx (xs ++ ys) j = if j < xs.length then gx xs j else gx ys (j - xs.length) := by
  unfold gx
  split
  · rename_i h; simp [List.getD, List.getElem?_append_left h]
  · rename_i h; simp [List.getD, List.getElem?_append_right (Nat.le_of_not_lt h)]
theorem dg_append (xs ys : List Int) : ∀ j, j ≤ xs.length → dg (xs ++ ys) j = dg xs j
  | 0, _ => rfl
  | j + 1, h => by rw [dg_succ, dg_succ, dg_append xs ys j (by omega), gx_append, if_pos (by omega)]
theorem dg_snoc (xs : List Int) (x : Int) : dg (xs ++ [x]) (xs.length + 1) = gcdI (dg xs xs.length) x := by
  rw [dg_succ, dg_append xs [x] _ (Nat.le_refl _), gx_append, if_neg (by omega)]; simp [gx]

/-! ### truncations -/
def trn (xs : List Int) (k j : Nat) : List Int := (List.range j).map fun i => gx xs i / dg xs (k + 1)
theorem trn_snoc (xs : List Int) (k j : Nat) : trn xs k (j + 1) = trn xs k j ++ [gx xs j / dg xs (k + 1)] := by simp [trn, List.range_succ]
theorem trn_len (xs : List Int) (k j : Nat) : (trn xs k j).length = j := by simp [trn]
def trB (xs : List Int) (k : Int) : List Int × Int := if isBr xs then (if inR k 0 ((xs.length : Int) - 1) then (trn xs k.toNat (k.toNat + 1), 0) else ([], 2)) else ([], 1)
theorem trB_len (xs : List Int) (k : Int) : (trB xs k).1.length ≤ 1000000000 := by
  unfold trB; split
  · rename_i h; split
    · rename_i h2; have := isBr_len_le h; have := inR_true.1 h2; simp [trn_len]; omega
    · simp
  · simp

/-! ### branches of exponents -/
def bxE (n : Int) (xs : List Int) : Nat → Int
  | 0 => n
  | k + 1 => gcdI (bxE n xs k) (gx xs k)
def bxL (n : Int) (xs : List Int) : Nat → List Int
  | 0 => [n]
  | k + 1 => if gx xs k % bxE n xs k = 0 then bxL n xs k else bxL n xs k ++ [gx xs k]
def okX (n : Int) (xs : List Int) : Bool := inR n 1 64 && (decide (xs.length ≤ 64) && (ascB xs && wiB xs 1 2000))
def bex (n : Int) (xs : List Int) : List Int × Int := if okX n xs then (if isBr (bxL n xs xs.length) then (bxL n xs xs.length, 0) else ([], 5)) else ([], 2)
theorem bxE_pos {n : Int} {xs : List Int} (h : 1 ≤ n) : ∀ k, 1 ≤ bxE n xs k ∧ bxE n xs k ≤ n
  | 0 => ⟨h, Int.le_refl _⟩
  | k + 1 => by
    have := bxE_pos (xs := xs) h k
    have h1 := gcdI_pos_left (bxE n xs k) (gx xs k) (by omega)
    have h2 := gcdI_le_left (bxE n xs k) (gx xs k) (by omega)
    unfold bxE; omega
theorem bxE_same {n : Int} {xs : List Int} {k : Nat} (h : 1 ≤ n) (e : gx xs k % bxE n xs k = 0) : bxE n xs (k + 1) = bxE n xs k :=
  gcdI_eq_left (by have := bxE_pos (xs := xs) h k; omega) (Int.dvd_of_emod_eq_zero e)
theorem bxL_same {n : Int} {xs : List Int} {k : Nat} (e : gx xs k % bxE n xs k = 0) : bxL n xs (k + 1) = bxL n xs k := by rw [bxL, if_pos e]
theorem bxL_more {n : Int} {xs : List Int} {k : Nat} (e : ¬ gx xs k % bxE n xs k = 0) : bxL n xs (k + 1) = bxL n xs k ++ [gx xs k] := by rw [bxL, if_neg e]
theorem bxL_len (n : Int) (xs : List Int) : ∀ k, 1 ≤ (bxL n xs k).length ∧ (bxL n xs k).length ≤ k + 1
  | 0 => by simp [bxL]
  | k + 1 => by
    have := bxL_len n xs k
    unfold bxL; split
    · omega
    · simp; omega
structure BxI (n : Int) (xs : List Int) (k : Nat) : Prop where
  hd : gx (bxL n xs k) 0 = n
  dgl : dg (bxL n xs k) (bxL n xs k).length = bxE n xs k
  one : (bxL n xs k).length = 1 → bxE n xs k = n
  le : ∀ i, 1 ≤ i → i < (bxL n xs k).length → gx (bxL n xs k) i ≤ 2000 ∧ dg (bxL n xs k) (i + 1) ≠ dg (bxL n xs k) i ∧ (2 ≤ i → gx (bxL n xs k) (i - 1) < gx (bxL n xs k) i)
  snd : 1 < (bxL n xs k).length → gx (bxL n xs k) 1 ≠ n
  last : 1 < (bxL n xs k).length → 1 ≤ k ∧ gx (bxL n xs k) ((bxL n xs k).length - 1) ≤ gx xs (k - 1)
theorem bxI {n : Int} {xs : List Int} (h : 1 ≤ n) (hasc : ∀ i, 1 ≤ i → i < xs.length → gx xs (i - 1) < gx xs i) (hw : ∀ i, i < xs.length → gx xs i ≤ 2000) : ∀ k, k ≤ xs.length → BxI n xs k
  | 0, _ => by
    refine ⟨rfl, ?_, fun _ => rfl, fun i h1 h2 => by simp [bxL] at h2; omega, fun h => by simp [bxL] at h, fun h => by simp [bxL] at h⟩
    show dg [n] 1 = n
    rw [dg_one _ (by show 0 ≤ n; omega)]; rfl
  | k + 1, hk => by
    have I := bxI h hasc hw k (by omega)
    have hp := bxE_pos (xs := xs) h k
    have hl := bxL_len n xs k
    have hup : 1 < (bxL n xs k).length → gx (bxL n xs k) ((bxL n xs k).length - 1) < gx xs k := fun hh => by
      have := I.last hh
      have := hasc k this.1 (by omega)
      omega
    by_cases e : gx xs k % bxE n xs k = 0
    · have e1 := bxL_same e
      have e2 := bxE_same h e
      refine ⟨by rw [e1]; exact I.hd, by rw [e1, e2]; exact I.dgl, by rw [e1, e2]; exact I.one, by rw [e1]; exact I.le, by rw [e1]; exact I.snd, ?_⟩
      rw [e1]; intro hh
      have := hup hh
      exact ⟨by omega, by simpa using Int.le_of_lt this⟩
    · have e1 := bxL_more e
      obtain ⟨I1, I2, I3, I4, I5, I6⟩ := I
      have hne : gcdI (bxE n xs k) (gx xs k) ≠ bxE n xs k := (gcdI_ne_iff hp.1).2 e
      generalize hT : bxL n xs k = T at *
      refine ⟨?_, ?_, ?_, ?_, ?_, ?_⟩
      · rw [e1, gx_append, if_pos (by omega)]; exact I1
      · rw [e1]; simp only [List.length_append, List.length_singleton]
        rw [dg_snoc, I2]; rfl
      · rw [e1]; intro hh; simp only [List.length_append, List.length_singleton] at hh; omega
      · intro i h1 h2
        rw [e1] at h2 ⊢
        simp at h2
        by_cases hi : i < T.length
        · have := I4 i h1 hi
          rw [gx_append, if_pos hi, dg_append _ _ _ (by omega), dg_append _ _ _ (by omega), gx_append, if_pos (by omega)]
          exact this
        · obtain rfl : i = T.length := by omega
          rw [dg_snoc, dg_append _ _ _ (Nat.le_refl _), I2, gx_append, if_neg (by omega), Nat.sub_self, gx_append, if_pos (by omega)]
          refine ⟨hw k (by omega), hne, fun h2 => ?_⟩
          exact hup (by omega)
      · intro hh
        rw [e1] at hh ⊢
        simp at hh
        rw [gx_append]
        split
        · exact I5 (by omega)
        · have hl1 : T.length = 1 := by omega
          rw [hl1]
          show gx xs k ≠ n
          intro hc
          rw [I3 hl1, hc] at e
          exact e (Int.emod_self)
      · intro _
        refine ⟨by omega, ?_⟩
        rw [e1]
        simp only [List.length_append, List.length_singleton]
        rw [gx_append, if_neg (by omega)]
        simp [gx]
theorem okX_true {n : Int} {xs : List Int} : okX n xs = true ↔ (1 ≤ n ∧ n ≤ 64) ∧ xs.length ≤ 64 ∧ (∀ i, 1 ≤ i → i < xs.length → gx xs (i - 1) < gx xs i) ∧ ∀ i, i < xs.length → 1 ≤ gx xs i ∧ gx xs i ≤ 2000 := by
  unfold okX ascB wiB
  simp only [Bool.and_eq_true, inR_true, decide_eq_true_eq, allF_true]
  constructor
  · rintro ⟨a, b, c, d⟩; exact ⟨a, b, c, fun i hi => d i (by omega) hi⟩
  · rintro ⟨a, b, c, d⟩; exact ⟨a, b, c, fun i _ hi => d i hi⟩
/-- The program's own last test. -/
theorem bex_test {n : Int} {xs : List Int} (h : okX n xs = true) : isBr (bxL n xs xs.length) = !(decide (1 < bxE n xs xs.length) || (decide (1 < (bxL n xs xs.length).length) && decide (gx (bxL n xs xs.length) 1 < n))) := by
  obtain ⟨h1, h2, h3, h4⟩ := okX_true.1 h
  obtain ⟨I1, I2, I3, I4, I5, I6⟩ := bxI h1.1 h3 (fun i hi => (h4 i hi).2) xs.length (Nat.le_refl _)
  have hp := bxE_pos (xs := xs) h1.1 xs.length
  have hl := bxL_len n xs xs.length
  generalize bxL n xs xs.length = T at *
  rw [Bool.eq_iff_iff, isBr_true]
  simp only [Bool.not_eq_true', Bool.or_eq_false_iff, Bool.and_eq_false_iff, decide_eq_false_iff_not]
  constructor
  · rintro ⟨a, b, c, d⟩
    rw [I2] at d
    refine ⟨by omega, ?_⟩
    by_cases hT : 1 < T.length
    · right
      have := (okT_true.1 (c 1 (by omega) hT)).1
      rw [show 1 - 1 = 0 from rfl, I1] at this
      omega
    · left; exact hT
  · rintro ⟨a, b⟩
    refine ⟨by omega, by rw [I1]; exact h1, fun i h5 h6 => ?_, by rw [I2]; omega⟩
    have := I4 i h5 h6
    refine okT_true.2 ⟨?_, this.1, this.2.1⟩
    rcases Nat.lt_or_ge i 2 with hi | hi
    · obtain rfl : i = 1 := by omega
      rw [show 1 - 1 = 0 from rfl, I1]
      have := I5 (by omega)
      rcases b with b | b
      · omega
      · omega
    · exact this.2.2 hi
theorem bex_len (n : Int) (xs : List Int) : (bex n xs).1.length ≤ 1000000000 := by
  unfold bex; split
  · rename_i h; split
    · have := (bxL_len n xs xs.length).2; have := (okX_true.1 h).2.1; simp; omega
    · simp
  · simp

/-! ### turned characteristics -/
def okU (xs : List Int) (i : Nat) : Bool := (dg xs (i + 1) != dg xs i) && (decide (gx xs i ≤ 2000) && (decide (i ≤ 1) || decide (gx xs (i - 1) < gx xs i)))
def isTu (xs : List Int) : Bool := decide (2 ≤ xs.length) && (inR (gx xs 0) 2 64 && (inR (gx xs 1) 1 (gx xs 0 - 1) && (allF 1 xs.length (okU xs) && (dg xs xs.length == 1))))
theorem okU_true {xs : List Int} {i : Nat} : okU xs i = true ↔ dg xs (i + 1) ≠ dg xs i ∧ gx xs i ≤ 2000 ∧ (2 ≤ i → gx xs (i - 1) < gx xs i) := by
  unfold okU
  simp only [Bool.and_eq_true, Bool.or_eq_true, decide_eq_true_eq, bne_iff_ne]
  constructor
  · rintro ⟨a, b, c⟩; exact ⟨a, b, fun h => by omega⟩
  · rintro ⟨a, b, c⟩; exact ⟨a, b, by by_cases h : i ≤ 1; exact .inl h; exact .inr (c (by omega))⟩
theorem isTu_true {xs : List Int} : isTu xs = true ↔ 2 ≤ xs.length ∧ (2 ≤ gx xs 0 ∧ gx xs 0 ≤ 64) ∧ (1 ≤ gx xs 1 ∧ gx xs 1 ≤ gx xs 0 - 1) ∧ (∀ i, 1 ≤ i → i < xs.length → okU xs i = true) ∧ dg xs xs.length = 1 := by
  unfold isTu
  simp only [Bool.and_eq_true, decide_eq_true_eq, inR_true, allF_true, beq_iff_eq]
theorem gx_drop (xs : List Int) (k j : Nat) : gx (xs.drop k) j = gx xs (k + j) := by simp [gx, List.getD]
/-- The program's own order of the tests. -/
theorem isTu_impl {xs : List Int} (h2 : 2 ≤ xs.length) (hx : inR (gx xs 0) 2 64 = true) (hy : inR (gx xs 1) 1 64 = true) (hlt : gx xs 1 < gx xs 0) :
    isTu xs = (ascB (xs.drop 1) && (wiB (xs.drop 1) 1 2000 && falB xs)) := by
  have hx' := inR_true.1 hx
  have hy' := inR_true.1 hy
  rw [Bool.eq_iff_iff, isTu_true]
  unfold ascB wiB falB
  simp only [Bool.and_eq_true, decide_eq_true_eq, inR_true, allF_true, beq_iff_eq, List.length_drop, gx_drop]
  constructor
  · rintro ⟨_, _, _, h3, h4⟩
    have hm : ∀ i, 1 + i < xs.length → 1 ≤ gx xs (1 + i) := by
      intro i
      induction i with
      | zero => intro _; simp; omega
      | succ i ih =>
        intro hi
        have := (okU_true.1 (h3 (1 + (i + 1)) (by omega) hi)).2.2 (by omega)
        have := ih (by omega)
        rw [show 1 + (i + 1) - 1 = 1 + i by omega] at *
        omega
    refine ⟨fun i a b => ?_, fun i _ b => ⟨hm i (by omega), (okU_true.1 (h3 (1 + i) (by omega) (by omega))).2.1⟩, fun i a b => ?_, h4⟩
    · have := (okU_true.1 (h3 (1 + i) (by omega) (by omega))).2.2 (by omega)
      rw [show 1 + (i - 1) = 1 + i - 1 by omega]; exact this
    · have := (okU_true.1 (h3 i a b)).1
      have := dg_mono xs (by omega) i a
      omega
  · rintro ⟨h3, h4, h5, h6⟩
    refine ⟨h2, hx', by omega, fun i a b => okU_true.2 ⟨by have := h5 i a b; omega, ?_, fun c => ?_⟩, h6⟩
    · have := (h4 (i - 1) (by omega) (by omega)).2
      rwa [show 1 + (i - 1) = i by omega] at this
    · have := h3 (i - 1) (by omega) (by omega)
      rwa [show 1 + (i - 1 - 1) = i - 1 by omega, show 1 + (i - 1) = i by omega] at this
def tcH (xs : List Int) : List Int := if gx xs 0 % gx xs 1 = 0 then [gx xs 1] else [gx xs 1, gx xs 0]
def tcL (xs : List Int) (k : Nat) : List Int := tcH xs ++ (List.range k).map fun i => gx xs (i + 2) + gx xs 0 - gx xs 1
theorem tcL_snoc (xs : List Int) (k : Nat) : tcL xs (k + 1) = tcL xs k ++ [gx xs (k + 2) + gx xs 0 - gx xs 1] := by simp [tcL, List.range_succ]
theorem tcL_zero (xs : List Int) : tcL xs 0 = tcH xs := by simp [tcL]
theorem tcL_len (xs : List Int) (k : Nat) : (tcL xs k).length = (tcH xs).length + k := by simp [tcL]
theorem tcH_len (xs : List Int) : 1 ≤ (tcH xs).length ∧ (tcH xs).length ≤ 2 := by unfold tcH; split <;> simp
def tcW (xs : List Int) : Bool := allF 2 xs.length fun i => decide (gx xs i + gx xs 0 - gx xs 1 ≤ 2000)
def tcB (xs : List Int) : List Int × Int := if isTu xs then (if tcW xs then (tcL xs (xs.length - 2), 0) else ([], 5)) else ([], 2)
/-- What a piece of the result is: its divisors and its order. -/
theorem tcL_facts {xs : List Int} (h : isTu xs = true) : ∀ k, k + 2 ≤ xs.length → dg (tcL xs k) (tcL xs k).length = dg xs (k + 2) ∧ gx (tcL xs k) 0 = gx xs 1 ∧
    (∀ i, 1 ≤ i → i < (tcL xs k).length → gx (tcL xs k) (i - 1) < gx (tcL xs k) i ∧ dg (tcL xs k) (i + 1) ≠ dg (tcL xs k) i) ∧ (1 ≤ k → gx (tcL xs k) ((tcL xs k).length - 1) = gx xs (k + 1) + gx xs 0 - gx xs 1) ∧ (k = 0 → gx (tcL xs k) ((tcL xs k).length - 1) ≤ gx xs 0)
  | 0, hk => by
    obtain ⟨h1, h2, h3, h4, h5⟩ := isTu_true.1 h
    rw [tcL_zero]
    have e2 : dg xs 2 = gcdI (gx xs 0) (gx xs 1) := by rw [dg_succ, dg_one xs (by omega)]
    unfold tcH
    split
    · rename_i e
      have e1 : dg [gx xs 1] 1 = gx xs 1 := dg_one _ (by show (0:Int) ≤ gx xs 1; omega)
      refine ⟨?_, rfl, fun i a b => by simp at b; omega, fun h => by omega, fun _ => by show gx xs 1 ≤ gx xs 0; omega⟩
      rw [e2, gcdI_comm, gcdI_eq_left (by omega) (Int.dvd_of_emod_eq_zero e)]; exact e1
    · rename_i e
      have e1 : dg [gx xs 1, gx xs 0] 1 = gx xs 1 := dg_one _ (by show (0:Int) ≤ gx xs 1; omega)
      have e3 : dg [gx xs 1, gx xs 0] 2 = gcdI (gx xs 1) (gx xs 0) := by rw [dg_succ, e1]; rfl
      refine ⟨by show dg [gx xs 1, gx xs 0] 2 = _; rw [e3, e2, gcdI_comm], rfl, fun i a b => ?_, fun h => by omega, fun _ => Int.le_refl _⟩
      obtain rfl : i = 1 := by simp at b; omega
      refine ⟨by show gx xs 1 < gx xs 0; omega, ?_⟩
      rw [e3, e1]; exact (gcdI_ne_iff (by omega)).2 e
  | k + 1, hk => by
    obtain ⟨h1, h2, h3, h4, h5⟩ := isTu_true.1 h
    obtain ⟨I1, I2, I3, I4, I5⟩ := tcL_facts h k (by omega)
    have hl : 1 ≤ (tcL xs k).length := by rw [tcL_len]; have := tcH_len xs; omega
    have hu := okU_true.1 (h4 (k + 2) (by omega) (by omega))
    have hdv : dg xs (k + 2) ∣ gx xs 0 - gx xs 1 := by
      have h01 : ∀ j, dg xs (j + 2) ∣ gx xs 0 ∧ dg xs (j + 2) ∣ gx xs 1 := by
        intro j
        induction j with
        | zero => exact ⟨Int.dvd_trans (dg_dvd_dg xs 1) (dg_dvd xs 0), dg_dvd xs 1⟩
        | succ j ih => exact ⟨Int.dvd_trans (dg_dvd_dg xs (j + 2)) ih.1, Int.dvd_trans (dg_dvd_dg xs (j + 2)) ih.2⟩
      exact Int.dvd_sub (h01 k).1 (h01 k).2
    have hnew : gcdI (dg xs (k + 2)) (gx xs (k + 2) + gx xs 0 - gx xs 1) = dg xs (k + 3) := by
      rw [show gx xs (k + 2) + gx xs 0 - gx xs 1 = gx xs (k + 2) + (gx xs 0 - gx xs 1) by omega, gcdI_add hdv]; rfl
    rw [tcL_snoc]
    simp only [List.length_append, List.length_singleton]
    refine ⟨by rw [dg_snoc, I1, hnew], by rw [gx_append, if_pos (by omega)]; exact I2, fun i a b => ?_, fun _ => ?_, fun h => by omega⟩
    · by_cases hi : i < (tcL xs k).length
      · rw [gx_append, if_pos (by omega), gx_append, if_pos hi, dg_append _ _ _ (by omega), dg_append _ _ _ (by omega)]
        exact I3 i a hi
      · obtain rfl : i = (tcL xs k).length := by omega
        rw [dg_snoc, dg_append _ _ _ (Nat.le_refl _), I1, hnew, gx_append, if_pos (by omega), gx_append, if_neg (by omega), Nat.sub_self]
        refine ⟨?_, hu.1⟩
        show _ < gx xs (k + 2) + gx xs 0 - gx xs 1
        have h6 := hu.2.2 (by omega)
        rw [show k + 2 - 1 = k + 1 by omega] at h6
        rcases Nat.eq_zero_or_pos k with hz | hz
        · have := I5 hz; subst hz; simp at *; omega
        · have := I4 hz; omega
    · simp only [Nat.add_sub_cancel]
      rw [gx_append, if_neg (by omega), Nat.sub_self]; rfl
theorem gx_tcL {xs : List Int} (k i : Nat) (h : i < k) : gx (tcL xs k) ((tcH xs).length + i) = gx xs (i + 2) + gx xs 0 - gx xs 1 := by
  unfold tcL; rw [gx_append, if_neg (by omega), Nat.add_sub_cancel_left, gx_eq _ _ (by simpa using h)]; simp
theorem tcB_test {xs : List Int} (h : isTu xs = true) : isBr (tcL xs (xs.length - 2)) = tcW xs := by
  obtain ⟨h1, h2, h3, h4, h5⟩ := isTu_true.1 h
  obtain ⟨I1, I2, I3, _, _⟩ := tcL_facts h (xs.length - 2) (by omega)
  rw [show xs.length - 2 + 2 = xs.length by omega] at I1
  have hl := tcL_len xs (xs.length - 2)
  have hH := tcH_len xs
  rw [Bool.eq_iff_iff, isBr_true]
  unfold tcW
  simp only [allF_true, decide_eq_true_eq]
  constructor
  · rintro ⟨_, _, c, _⟩ i a b
    have := (okT_true.1 (c ((tcH xs).length + (i - 2)) (by omega) (by rw [hl]; omega))).2.1
    rw [gx_tcL _ _ (by omega), show i - 2 + 2 = i by omega] at this
    exact this
  · intro c
    refine ⟨by omega, by rw [I2]; omega, fun i a b => okT_true.2 ⟨(I3 i a b).1, ?_, (I3 i a b).2⟩, by rw [I1]; exact h5⟩
    by_cases hi : i < (tcH xs).length
    · unfold tcL; rw [gx_append, if_pos hi]
      unfold tcH at hi ⊢
      split
      · rename_i e; rw [if_pos e] at hi; simp at hi; omega
      · rename_i e; rw [if_neg e] at hi; simp at hi
        obtain rfl : i = 1 := by omega
        show gx xs 0 ≤ 2000; omega
    · have := c (i - (tcH xs).length + 2) (by omega) (by omega)
      have e := gx_tcL (xs := xs) (xs.length - 2) (i - (tcH xs).length) (by omega)
      rw [show (tcH xs).length + (i - (tcH xs).length) = i by omega] at e
      rw [e]; exact this
theorem isTu_len {xs : List Int} (h : isTu xs = true) : xs.length ≤ 2001 := by
  obtain ⟨h1, h2, h3, h4, h5⟩ := isTu_true.1 h
  have key : ∀ i, 1 ≤ i → i < xs.length → (i : Int) ≤ gx xs i := by
    intro i
    induction i with
    | zero => intro a; omega
    | succ i ih =>
      intro _ b
      rcases Nat.eq_zero_or_pos i with rfl | hp
      · simp; omega
      · have := ih hp (by omega)
        have := (okU_true.1 (h4 (i + 1) (by omega) b)).2.2 (by omega)
        simp at this; omega
  have := key (xs.length - 1) (by omega) (by omega)
  have := (okU_true.1 (h4 (xs.length - 1) (by omega) (by omega))).2.1
  omega
theorem tcB_len (xs : List Int) : (tcB xs).1.length ≤ 1000000000 := by
  unfold tcB; split
  · rename_i h; split
    · have := isTu_len h; have := tcH_len xs; simp [tcL_len]; omega
    · simp
  · simp
end Go.Proofs.YtfginjifplcedaaDoor.Pl
