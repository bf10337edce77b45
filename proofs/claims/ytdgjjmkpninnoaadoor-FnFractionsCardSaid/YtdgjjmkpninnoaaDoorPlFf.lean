/-
  PLAIN LAWS, CHAPTER 1: what the law on fractions says; no program in sight.
-/
import Derived.Test.YtdgjjmkpninnoaaDoorPlY
namespace Go.Proofs.YtdgjjmkpninnoaaDoor.Pl
open Go
set_option linter.unusedVariables false
theorem cmpI_turn (a b : Int) : cmpI b a = -(cmpI a b) := by unfold cmpI; split <;> split <;> first | omega | (split <;> omega) | rfl
theorem cmpF_turn {t b u c : Int} (h : (cmpF t b u c).2 = 0) : cmpF u c t b = (-(cmpF t b u c).1, 0) := by
  unfold cmpF at h ⊢
  cases h1 : isFr t b <;> cases h2 : isFr u c <;> rw [h1, h2] at h <;> first | (simp at h; done) | skip
  simp only [Bool.and_self, if_true]
  rw [cmpI_turn]
theorem cmpI_bd (a b : Int) : -1 ≤ cmpI a b ∧ cmpI a b ≤ 1 := by unfold cmpI; split <;> first | omega | (split <;> omega)
theorem cmpF_bd (t b u c : Int) : -1 ≤ (cmpF t b u c).1 ∧ (cmpF t b u c).1 ≤ 1 := by
  unfold cmpF; split
  · exact cmpI_bd _ _
  · simp
theorem red_scale {a b : Int} (hb : 0 < b) : redT a b * b = a * redB a b := by
  have h1 := gcdI_dvd_left a b
  have h2 := gcdI_dvd_right a b
  rw [← redT_pos a b (by omega), ← redB_pos a b (by omega), Int.tdiv_eq_ediv_of_dvd h1, Int.tdiv_eq_ediv_of_dvd h2]
  have hg := gcdI_pos' a b (by omega)
  obtain ⟨k, hk⟩ := h1
  obtain ⟨l, hl⟩ := h2
  generalize gcdI a b = g at *
  subst hk
  subst hl
  rw [Int.mul_ediv_cancel_left _ (by omega), Int.mul_ediv_cancel_left _ (by omega), Int.mul_left_comm, Int.mul_assoc]
theorem redT_nat (a b : Int) : (redT a b).natAbs ≤ a.natAbs := by
  unfold redT sgn
  rw [Int.natAbs_tdiv]
  refine Nat.le_trans (Nat.div_le_self _ _) ?_
  split <;> simp
theorem redB_nat (a b : Int) : (redB a b).natAbs ≤ b.natAbs := by
  unfold redB sgn
  rw [Int.natAbs_tdiv]
  refine Nat.le_trans (Nat.div_le_self _ _) ?_
  split <;> simp
theorem fits_ok {x y : Int} (h : (fits x y).2.2 = 0) : fits x y = (x, y, 0) := by
  unfold fits at h ⊢
  split
  · rfl
  · rename_i h1; rw [if_neg h1] at h; simp at h
/-- What the law asks of a sum and a product of small fractions. -/
theorem sum_prod {t b u c s1 s2 p1 p2 : Int} (hs : addF t b u c = (s1, s2, 0)) (hp : mulF t b u c = (p1, p2, 0)) (ht : -1000 < t ∧ t < 1000) (hu : -1000 < u ∧ u < 1000) (hb : b < 1000) (hc : c < 1000) :
    (s1 * b * c = (t * c + u * b) * s2 ∧ p1 * b * c = t * u * p2) ∧
    ((-3000000000 ≤ s1 * b ∧ s1 * b ≤ 3000000000) ∧ (-3000000000000 ≤ s1 * b * c ∧ s1 * b * c ≤ 3000000000000) ∧ (-1000000 ≤ t * c ∧ t * c ≤ 1000000) ∧ (-1000000 ≤ u * b ∧ u * b ≤ 1000000)) ∧
    ((-3000000000 ≤ p1 * b ∧ p1 * b ≤ 3000000000) ∧ (-3000000000000 ≤ p1 * b * c ∧ p1 * b * c ≤ 3000000000000) ∧ (-1000000 ≤ t * u ∧ t * u ≤ 1000000)) := by
  have hF : isFr t b = true ∧ isFr u c = true := by
    unfold addF at hs
    cases h1 : isFr t b <;> cases h2 : isFr u c <;> rw [h1, h2] at hs <;> first | (simp at hs; done) | exact ⟨rfl, rfl⟩
  obtain ⟨f1, f2⟩ := hF
  have b1 := (isFr_bd f1).2.1
  have c1 := (isFr_bd f2).2.1
  unfold addF at hs
  unfold mulF at hp
  rw [f1, f2] at hs hp
  simp only [Bool.and_self, if_true] at hs hp
  have e1 := fits_ok (x := redT (t * c + u * b) (b * c)) (y := redB (t * c + u * b) (b * c)) (by rw [hs])
  have e2 := fits_ok (x := redT (t * u) (b * c)) (y := redB (t * u) (b * c)) (by rw [hp])
  rw [e1] at hs
  rw [e2] at hp
  simp only [Prod.mk.injEq] at hs hp
  obtain ⟨rfl, rfl, _⟩ := hs
  obtain ⟨rfl, rfl, _⟩ := hp
  have hbc : 0 < b * c := Int.mul_pos (by omega) (by omega)
  have q1 := red_scale (a := t * c + u * b) hbc
  have q2 := red_scale (a := t * u) hbc
  have n1 := redT_nat (t * c + u * b) (b * c)
  have n2 := redT_nat (t * u) (b * c)
  have m1 : (t * c).natAbs ≤ 999 * 999 := by rw [Int.natAbs_mul]; exact Nat.mul_le_mul (by omega) (by omega)
  have m2 : (u * b).natAbs ≤ 999 * 999 := by rw [Int.natAbs_mul]; exact Nat.mul_le_mul (by omega) (by omega)
  have m3 : (t * u).natAbs ≤ 999 * 999 := by rw [Int.natAbs_mul]; exact Nat.mul_le_mul (by omega) (by omega)
  generalize redT (t * c + u * b) (b * c) = s1 at *
  generalize redB (t * c + u * b) (b * c) = s2 at *
  generalize redT (t * u) (b * c) = p1 at *
  generalize redB (t * u) (b * c) = p2 at *
  have k1 : (s1 * b).natAbs ≤ 1996002 * 999 := by rw [Int.natAbs_mul]; exact Nat.mul_le_mul (by omega) (by omega)
  have k2 : (s1 * b * c).natAbs ≤ 1996002 * 999 * 999 := by rw [Int.natAbs_mul]; exact Nat.mul_le_mul k1 (by omega)
  have k3 : (p1 * b).natAbs ≤ 998001 * 999 := by rw [Int.natAbs_mul]; exact Nat.mul_le_mul (by omega) (by omega)
  have k4 : (p1 * b * c).natAbs ≤ 998001 * 999 * 999 := by rw [Int.natAbs_mul]; exact Nat.mul_le_mul k3 (by omega)
  refine ⟨⟨by rw [Int.mul_assoc]; exact q1, by rw [Int.mul_assoc]; exact q2⟩, ?_, ?_⟩
  · exact ⟨by omega, by omega, by omega, by omega⟩
  · exact ⟨by omega, by omega, by omega⟩
theorem mkF_fr {a b x y : Int} (h : mkF a b = (x, y, 0)) : isFr x y = true := by
  unfold mkF at h
  split at h
  · rename_i h1
    simp only [Bool.and_eq_true] at h1
    have ba := isInt_true.1 h1.1
    have bb := isInt_true.1 h1.2
    split at h
    · simp at h
    · rename_i h2
      simp only [Prod.mk.injEq] at h
      obtain ⟨rfl, rfl, _⟩ := h
      have n1 := redT_nat a b
      have n2 := redB_nat a b
      have n3 := (redB_bd a b h2 (by omega) (by omega)).1
      unfold isFr
      rw [red_coprime a b h2, isInt_true.2 (by omega), isNat_true.2 (by omega)]
      rfl
  · simp at h
theorem ftF_ok {x y : Int} (h : isFr x y = true) : ftF x y = (txF x y, 0) := by unfold ftF; rw [h]; rfl
theorem pfF_tx {x y : Int} (h : isFr x y = true) (h1 : -1000000000 < x) (h2 : x < 1000000000) (h3 : y < 1000000000) : pfF (txF x y) = (x, y, 0) := by
  unfold pfF; rw [pfI_tx h h1 h2 h3]
theorem pfF_ft {l : List UInt8} {x y : Int} (h : pfF l = (x, y, 0)) : ftF x y = (l, 0) := by
  unfold pfF at h
  cases hp : pfI l with
  | none => rw [hp] at h; simp at h
  | some q =>
    obtain ⟨a, b⟩ := q
    rw [hp] at h
    simp only [Prod.mk.injEq] at h
    obtain ⟨rfl, rfl, _⟩ := h
    obtain ⟨h1, h2, _, _⟩ := pfI_sound hp
    rw [ftF_ok h1, h2]
/-! ### divisors one after the other -/
def gl (d : Int) (xs : List Int) : Int := xs.foldl gcdI d
theorem gl_take (xs : List Int) (k : Nat) (h : k < xs.length) : gl 0 (xs.take (k + 1)) = gcdI (gl 0 (xs.take k)) (gx xs k) := by
  rw [take_snoc xs k h]; unfold gl; rw [List.foldl_append]; rfl
theorem cdvL_ok : ∀ (xs : List Int) (d g : Int), cdvL d xs = (g, 0) → g = gl d xs ∧ ∀ n ∈ xs, isInt n = true
  | [], d, g, h => by simp only [cdvL, Prod.mk.injEq] at h; exact ⟨h.1.symm, fun n hn => by cases hn⟩
  | m :: ns, d, g, h => by
    unfold cdvL at h
    cases hm : isInt m
    · rw [hm] at h; simp at h
    · rw [hm] at h
      obtain ⟨e, ha⟩ := cdvL_ok ns (gcdI d m) g h
      refine ⟨e, fun n hn => ?_⟩
      rcases List.mem_cons.1 hn with rfl | hn
      · exact hm
      · exact ha n hn
theorem gcdI_small {d n : Int} (h0 : 0 ≤ d) (h1 : d ≤ 1000000000) (hn : isInt n = true) : 0 ≤ gcdI d n ∧ gcdI d n ≤ 1000000000 := by
  have hb := isInt_true.1 hn
  have h2 : gcdI d n = (Int.gcd d n : Int) := rfl
  refine ⟨by omega, ?_⟩
  rcases Int.lt_or_eq_of_le h0 with hp | he
  · have h3 : Int.gcd d n ∣ d.natAbs := Int.gcd_dvd_natAbs_left d n
    have := Nat.le_of_dvd (by omega) h3
    omega
  · subst he
    rw [h2, Int.zero_gcd]
    omega
theorem gl_small (xs : List Int) (h : ∀ n ∈ xs, isInt n = true) : ∀ k, k ≤ xs.length → 0 ≤ gl 0 (xs.take k) ∧ gl 0 (xs.take k) ≤ 1000000000
  | 0, _ => by simp [gl]
  | k + 1, hk => by
    rw [gl_take xs k (by omega)]
    obtain ⟨h0, h1⟩ := gl_small xs h k (by omega)
    exact gcdI_small h0 h1 (h _ (gx_mem xs k (by omega)))
theorem cdv_step {xs : List Int} (h : ∀ n ∈ xs, isInt n = true) {k : Nat} (hk : k < xs.length) : cdv (gl 0 (xs.take k)) (gx xs k) = (gl 0 (xs.take (k + 1)), 0) := by
  obtain ⟨h0, h1⟩ := gl_small xs h k (by omega)
  unfold cdv
  rw [isInt_true.2 (by omega), h _ (gx_mem xs k hk), gl_take xs k hk]
  rfl
theorem cdvOf_ok {xs : List Int} {g : Int} (h : cdvOf xs = (g, 0)) : g = gl 0 xs ∧ ∀ n ∈ xs, isInt n = true := by
  unfold cdvOf at h
  split at h
  · simp at h
  · exact cdvL_ok xs 0 g h
end Go.Proofs.YtdgjjmkpninnoaaDoor.Pl
