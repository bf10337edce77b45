/-
  PLAIN LAWS, CHAPTER 2: the division by a polynomial with last coefficient 1, in wrapping numbers.
-/
import Derived.Test.YtoagjlcobeimfaaPlOv
import Derived.IntWalk
namespace Go.Proofs.Ytoagjlcobeimfaa.Pl
open Go
set_option linter.unusedVariables false
def wr (z : Int) : Int := IntKind.i64.wrap z
theorem wr_in {z : Int} (h : -9223372036854775808 ≤ z ∧ z ≤ 9223372036854775807) : wr z = z := IntWalk.i64_in z h
def qIn (t : Int) (k : Nat) (q : List Int) : Nat → Nat → List Int → List Int
  | 0, _, rest => rest
  | r + 1, i, rest => qIn t k q r (i + 1) (rest.set (k + i) (wr (gx rest (k + i) - wr (t * gx q i))))
def qOut (q : List Int) : Nat → List Int → List Int → List Int × List Int
  | 0, rest, out => (rest, out)
  | k + 1, rest, out => qOut q k (qIn (gx rest (k + (q.length - 1))) k q q.length 0 rest) (out.set k (gx rest (k + (q.length - 1))))
def allZ (l : List Int) : Bool := l.all (· == 0)
/-- The quotient, and whether nothing is left. -/
def qwF (p q : List Int) : List Int × Bool :=
  if p.length < q.length then ([], false) else
    ((qOut q (p.length - q.length + 1) p (List.replicate (p.length - q.length + 1) 0)).2, allZ (qOut q (p.length - q.length + 1) p (List.replicate (p.length - q.length + 1) 0)).1)
theorem qIn_len (t : Int) (k : Nat) (q : List Int) : ∀ (r i : Nat) (rest : List Int), (qIn t k q r i rest).length = rest.length
  | 0, _, _ => rfl
  | r + 1, i, rest => by
    show (qIn t k q r (i + 1) _).length = _
    rw [qIn_len t k q r, List.length_set]
theorem qOut_len (q : List Int) : ∀ (k : Nat) (rest out : List Int), (qOut q k rest out).1.length = rest.length ∧ (qOut q k rest out).2.length = out.length
  | 0, _, _ => ⟨rfl, rfl⟩
  | k + 1, rest, out => by
    have := qOut_len q k (qIn (gx rest (k + (q.length - 1))) k q q.length 0 rest) (out.set k (gx rest (k + (q.length - 1))))
    rw [qIn_len, List.length_set] at this; exact this
theorem qIn_exact {t : Int} {k : Nat} {q : List Int} (ht : -128 ≤ t ∧ t ≤ 128) (hq : ∀ i, -128 ≤ gx q i ∧ gx q i ≤ 128) : ∀ (r i : Nat) (rest : List Int), k + i + r ≤ rest.length →
    (∀ j, k + i ≤ j → -1000000000000 ≤ gx rest j ∧ gx rest j ≤ 1000000000000) →
    ∀ j, gx (qIn t k q r i rest) j = if k + i ≤ j ∧ j < k + i + r then gx rest j - t * gx q (j - k) else gx rest j
  | 0, i, rest, _, _, j => by rw [if_neg (by omega)]; rfl
  | r + 1, i, rest, hl, hb, j => by
    have hqi := hq i
    have hm : -16384 ≤ t * gx q i ∧ t * gx q i ≤ 16384 := by
      generalize gx q i = y at *
      have c1 : (t + 128) * (y + 128) ≥ 0 := Int.mul_nonneg (by omega) (by omega)
      have c2 : (128 - t) * (128 - y) ≥ 0 := Int.mul_nonneg (by omega) (by omega)
      have c3 : (t + 128) * (128 - y) ≥ 0 := Int.mul_nonneg (by omega) (by omega)
      have c4 : (128 - t) * (y + 128) ≥ 0 := Int.mul_nonneg (by omega) (by omega)
      simp only [Int.add_mul, Int.mul_add, Int.sub_mul, Int.mul_sub] at c1 c2 c3 c4
      omega
    have hbk := hb (k + i) (Nat.le_refl _)
    have e1 : wr (gx rest (k + i) - wr (t * gx q i)) = gx rest (k + i) - t * gx q i := by rw [wr_in (z := t * gx q i) (by omega), wr_in (by omega)]
    show gx (qIn t k q r (i + 1) (rest.set (k + i) (wr (gx rest (k + i) - wr (t * gx q i))))) j = _
    rw [e1]
    generalize hv : gx rest (k + i) - t * gx q i = v
    rw [qIn_exact ht hq r (i + 1) (rest.set (k + i) v) (by rw [List.length_set]; omega) (fun j hj => by rw [gx_set rest (k + i) j v (by omega), if_neg (by omega)]; exact hb j (by omega)) j,
      gx_set rest (k + i) j v (by omega)]
    by_cases h1 : j = k + i
    · subst h1
      rw [if_neg (by omega), if_pos rfl, if_pos (by omega), ← hv, Nat.add_sub_cancel_left]
    · rw [if_neg h1]
      by_cases h2 : k + (i + 1) ≤ j ∧ j < k + (i + 1) + r
      · rw [if_pos h2, if_pos (by omega)]
      · rw [if_neg h2, if_neg (by omega)]
theorem qOut_exact {P q : List Int} (hq0 : 0 < q.length) (hP : ∀ i, -128 ≤ gx P i ∧ gx P i ≤ 128) (hq : ∀ i, -128 ≤ gx q i ∧ gx q i ≤ 128) (hm : gx q (q.length - 1) = 1) :
    ∀ (k : Nat) (rest out : List Int), (∀ j, gx rest j = cp P q k j) → k + q.length ≤ rest.length + 1 → k ≤ out.length → k ≤ 2001 → (∀ i, k ≤ i → gx out i = gx P i) →
      (∀ j, gx (qOut q k rest out).1 j = 0) ∧ ∀ i, gx (qOut q k rest out).2 i = gx P i
  | 0, rest, out, h, _, _, _, ho => ⟨fun j => h j, fun i => ho i (Nat.zero_le _)⟩
  | k + 1, rest, out, h, hl, hlo, hk, ho => by
    have ht : gx rest (k + (q.length - 1)) = gx P k := by rw [h, cp_top P q k hq0, hm, Int.mul_one]
    have hb : ∀ j, -1000000000000 ≤ gx rest j ∧ gx rest j ≤ 1000000000000 := fun j => by
      have := cp_bd hP hq j (k + 1)
      rw [h]; omega
    show (∀ j, gx (qOut q k (qIn (gx rest (k + (q.length - 1))) k q q.length 0 rest) (out.set k (gx rest (k + (q.length - 1))))).1 j = 0) ∧ _
    rw [show qOut q (k + 1) rest out = qOut q k (qIn (gx rest (k + (q.length - 1))) k q q.length 0 rest) (out.set k (gx rest (k + (q.length - 1)))) from rfl, ht]
    refine qOut_exact hq0 hP hq hm k _ _ (fun j => ?_) (by rw [qIn_len]; omega) (by rw [List.length_set]; omega) (by omega) (fun i hi => ?_)
    · rw [qIn_exact (hP k) hq q.length 0 rest (by omega) (fun j _ => hb j) j, h, cp_succ, Nat.add_zero]
      by_cases h1 : k ≤ j
      · rw [if_pos h1]
        by_cases h2 : j < k + q.length
        · rw [if_pos ⟨h1, h2⟩]; omega
        · rw [if_neg (fun e => h2 e.2), gx_out q (j - k) (by omega)]; omega
      · rw [if_neg h1, if_neg (fun e => h1 e.1)]; omega
    · rw [gx_set out k i _ (by omega)]
      by_cases h1 : i = k
      · rw [if_pos h1, h1]
      · rw [if_neg h1]; exact ho i (by omega)
theorem allZ_of {l : List Int} (h : ∀ j, gx l j = 0) : allZ l = true := by
  unfold allZ
  rw [List.all_eq_true]
  intro x hx
  obtain ⟨i, hi, rfl⟩ := List.getElem_of_mem hx
  have := h i
  rw [gx_eq l i hi] at this
  simp [this]
/-- The first time that a prime divides: the division goes. -/
theorem qw_first {n m p : Nat} (hm : chkA m = true) (hn : chkA n = true) (hp : 2 ≤ p) (hnm : n / p = m) (hb : chkB n p = true) (h0 : m % p ≠ 0) (hl : totN n ≤ 2000) :
    qwF (spread (phi m) p) (phi m) = (phi n, true) := by
  obtain ⟨e, hd⟩ := phi_first hm hn hp hnm hb h0 hl
  obtain ⟨s1, _⟩ := spread_top hm hn hp hnm hb
  have hql : (phi m).length = totN m + 1 := phi_len m
  have hN : (spread (phi m) p).length - (phi m).length + 1 = totN n + 1 := by omega
  unfold qwF
  rw [if_neg (by omega), hN]
  obtain ⟨r1, r2⟩ := qOut_exact (P := phi n) (q := phi m) (by omega) (fun i => by have := phi_bd hn i; omega) (fun i => by have := phi_bd hm i; omega) (by rw [hql]; exact phi_top hm)
    (totN n + 1) (spread (phi m) p) (List.replicate (totN n + 1) 0) e (by omega) (by simp) (by omega) (fun i hi => by rw [phi_sup n i hi, gx_out _ _ (by simp; omega)])
  rw [allZ_of r1]
  congr 1
  refine gx_ext _ _ ?_ fun k _ => r2 k
  rw [(qOut_len _ _ _ _).2, phi_len]; simp
end Go.Proofs.Ytoagjlcobeimfaa.Pl
