/-
  PLAIN LAWS, CHAPTER 2: cyclotomic polynomials by reckoning with great numbers: what is reckoned.
-/
import Derived.Test.YtogkblncdpbhnaaPlP
namespace Go.Proofs.Ytogkblncdpbhnaa.Pl
open Go
set_option linter.unusedVariables false
/-- What is left of n without its factors p, and how often p divides it. -/
def expG : Nat → Nat → Nat → Nat × Nat
  | 0, _, n => (n, 0)
  | f + 1, p, n => bif n % p == 0 then ((expG f p (n / p)).1, (expG f p (n / p)).2 + 1) else (n, 0)
/-- The prime factors with their exponents. -/
def facG : Nat → Nat → Nat → List (Nat × Nat)
  | 0, _, _ => []
  | f + 1, p, n => bif Nat.ble n 1 then [] else
      bif Nat.blt n (p * p) then (n, 1) :: []
      else bif (expG 12 p n).2 == 0 then facG f (p + 1) (expG 12 p n).1
      else (p, (expG 12 p n).2) :: facG f (p + 1) (expG 12 p n).1
/-- 0, 1, 2 for the values 0, 1, -1. -/
def mobL : List (Nat × Nat) → Nat
  | [] => 1
  | (_, e) :: r => bif Nat.ble e 1 then (bif mobL r == 0 then 0 else 3 - mobL r) else 0
def mobC (n : Nat) : Nat := mobL (facG 50 2 n)
def totL (o : Nat) : List (Nat × Nat) → Nat
  | [] => o
  | (p, _) :: r => totL (o / p * (p - 1)) r
def totN (n : Nat) : Nat := totL n (facG 50 2 n)
noncomputable def dsG (n s : Nat) (k : Nat) : List Nat :=
  Nat.rec [] (fun k ih => cond (Nat.beq (Nat.mod n (Nat.succ k)) 0) (cond (Nat.beq (mobC (Nat.div n (Nat.succ k))) s) (Nat.succ k :: ih) ih) ih) k
def prG (T : Nat) : List Nat → Nat
  | [] => 1
  | d :: r => (T ^ d - 1) * prG T r
def TT : Nat := 4294967296
def repG (k : Nat) : Nat := (TT ^ k - 1) / 4294967295
def chkQ (q k : Nat) : Bool := (((q + 128 * repG k) &&& (4294967040 * repG k)) == 0) && ((q + 128 * repG k) / TT ^ (k - 1) == 129)
def chkL (n N D : Nat) : Bool := ((N / D) * D == N) && chkQ (N / D) (totN n + 1)
noncomputable def chkA (n : Nat) : Bool := chkL n (prG TT (dsG n 1 n)) (prG TT (dsG n 2 n)) && (Nat.ble (dsG n 1 n).length 16 && (Nat.ble (dsG n 2 n).length 16 && (Nat.ble n 1 || (dsG n 1 n).length == (dsG n 2 n).length)))
/-- Not divided by a number from 2 to 44 that is less. -/
noncomputable def prmG (p : Nat) : Bool :=
  Nat.rec true (fun k ih => cond (Nat.blt k 1) true (cond (Nat.blt (Nat.succ k) p) (cond (Nat.beq (Nat.mod p (Nat.succ k)) 0) false ih) ih)) 44
/-- The value at T of the polynomial of n. -/
noncomputable def valG (n T : Nat) : Nat := prG T (dsG n 1 n) / prG T (dsG n 2 n)
noncomputable def divG (n T : Nat) : Bool := prG T (dsG n 1 n) % prG T (dsG n 2 n) == 0
/-- n = m p. -/
noncomputable def chkB (n p : Nat) : Bool := divG (n / p) (TT ^ p) &&
  (cond (Nat.beq (Nat.mod (n / p) p) 0) (Nat.beq (valG n TT) (valG (n / p) (TT ^ p))) (Nat.beq (valG (n / p) TT * valG n TT) (valG (n / p) (TT ^ p))))
noncomputable def chkP (n : Nat) : Bool :=
  Nat.rec true (fun k ih => cond (Nat.blt k 1) true (cond (Nat.beq (Nat.mod n (Nat.succ k)) 0) (cond (prmG (Nat.succ k)) (cond (chkB n (Nat.succ k)) ih false) ih) ih)) n
noncomputable def allA (lo : Nat) : Nat → Bool
  | 0 => true
  | k + 1 => cond (chkA (lo + k)) (cond (chkP (lo + k)) (allA lo k) false) false
theorem allA_get {lo : Nat} : ∀ {k : Nat}, allA lo k = true → ∀ j, j < k → chkA (lo + j) = true ∧ chkP (lo + j) = true
  | 0, _, j, hj => absurd hj (Nat.not_lt_zero _)
  | k + 1, h, j, hj => by
    have h' : cond (chkA (lo + k)) (cond (chkP (lo + k)) (allA lo k) false) false = true := h
    cases h1 : chkA (lo + k) <;> rw [h1] at h'
    · cases h'
    · cases h2 : chkP (lo + k) <;> rw [h2] at h'
      · cases h'
      · rcases Nat.lt_or_eq_of_le (Nat.le_of_lt_succ hj) with hl | rfl
        · exact allA_get (k := k) h' j hl
        · exact ⟨h1, h2⟩
theorem allA_at {lo k : Nat} (h : allA lo k = true) (n : Nat) (h1 : lo ≤ n) (h2 : n < lo + k) : chkA n = true ∧ chkP n = true := by
  have := allA_get h (n - lo) (by omega)
  rwa [show lo + (n - lo) = n by omega] at this
end Go.Proofs.Ytogkblncdpbhnaa.Pl
