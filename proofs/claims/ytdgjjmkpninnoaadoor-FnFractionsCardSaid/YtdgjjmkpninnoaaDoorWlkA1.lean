/-
  WALKS, CHAPTER 1: the small functions on ranges and divisors, each by its contract: what it returns; the world as it was, or grown at most.
-/
import Derived.Test.YtdgjjmkpninnoaaDoorKit
import Derived.Test.YtdgjjmkpninnoaaDoorPlA
import Derived.Deep.QuietTactic
import Derived.BigQuiet
namespace Go.Proofs.YtdgjjmkpninnoaaDoor
open Go.RowKit
set_option linter.unusedVariables false
namespace WA
open K Pl

theorem inRange_any (n l m : Int) (w : World) : Calls Tryd.prog 48 #[.int .i64 n, .int .i64 l, .int .i64 m] w fun e w' => e = .returned (.bool (inR n l m)) ∧ w = w' := by
  unfold inR
  by_cases h1 : l ≤ n <;> by_cases h2 : n ≤ m <;>
  · go_enter Tryd.func48, Tryd.ntmps48
    go_wp2
    go_ret
    exact ⟨by simp [h1, h2], rfl⟩
theorem l01In_any (n l m : Int) (w : World) : Calls Tryd.prog 49 #[.int .i64 n, .int .i64 l, .int .i64 m] w fun e w' => e = .returned (.bool (inR n l m)) ∧ w = w' := by
  unfold inR
  by_cases h1 : l ≤ n <;> by_cases h2 : n ≤ m <;>
  · go_enter Tryd.func49, Tryd.ntmps49
    go_wp2
    go_ret
    exact ⟨by simp [h1, h2], rfl⟩
theorem isInteger_any (n : Int) (w : World) : Calls Tryd.prog 32 #[.int .i64 n] w fun e w' => e = .returned (.bool (isInt n)) ∧ w = w' := by
  go_enter Tryd.func32, Tryd.ntmps32
  go_wp2_with (go_at_call 48; refine (inRange_any _ _ _ _).mono ?_; rintro e w' ⟨rfl, rfl⟩)
  go_ret
  exact ⟨rfl, rfl⟩
theorem isNatural_any (n : Int) (w : World) : Calls Tryd.prog 46 #[.int .i64 n] w fun e w' => e = .returned (.bool (isNat n)) ∧ w = w' := by
  go_enter Tryd.func46, Tryd.ntmps46
  go_wp2_with (go_at_call 48; refine (inRange_any _ _ _ _).mono ?_; rintro e w' ⟨rfl, rfl⟩)
  go_ret
  exact ⟨rfl, rfl⟩
theorem l01Integer_any (n : Int) (w : World) : Calls Tryd.prog 33 #[.int .i64 n] w fun e w' => e = .returned (.bool (isInt n)) ∧ w = w' := by
  go_enter Tryd.func33, Tryd.ntmps33
  go_wp2_with (go_at_call 49; refine (l01In_any _ _ _ _).mono ?_; rintro e w' ⟨rfl, rfl⟩)
  go_ret
  exact ⟨rfl, rfl⟩
theorem l01Natural_any (n : Int) (w : World) : Calls Tryd.prog 47 #[.int .i64 n] w fun e w' => e = .returned (.bool (isNat n)) ∧ w = w' := by
  go_enter Tryd.func47, Tryd.ntmps47
  go_wp2_with (go_at_call 49; refine (l01In_any _ _ _ _).mono ?_; rintro e w' ⟨rfl, rfl⟩)
  go_ret
  exact ⟨rfl, rfl⟩
theorem abs_any (n : Int) (w : World) (h : -9223372036854775807 ≤ n) (h' : n ≤ 9223372036854775807) : Calls Tryd.prog 52 #[.int .i64 n] w fun e w' => e = .returned (.int .i64 (absI n)) ∧ w = w' := by
  by_cases h0 : n < 0
  · go_enter Tryd.func52, Tryd.ntmps52
    go_wp2
    go_ret
    exact ⟨ret_i (absI_neg h0).symm, rfl⟩
  · have H := Lib.hid (absI_pos h0)
    go_enter Tryd.func52, Tryd.ntmps52
    go_wp2
    go_ret
    exact ⟨ret_i H.out.symm, rfl⟩
theorem divisor_any (a b : Int) (w : World) (ha : -9223372036854775807 ≤ a) (ha' : a ≤ 9223372036854775807) (hb : -9223372036854775807 ≤ b) (hb' : b ≤ 9223372036854775807) :
    Calls Tryd.prog 40 #[.int .i64 a, .int .i64 b] w fun e w' => e = .returned (.int .i64 (gcdI a b)) ∧ Below w.heap.size w w' := by
  have hx := absI_bd a ha ha'
  have hy := absI_bd b hb hb'
  have Hg := Lib.hid (gcdI_absI a b)
  go_enter Tryd.func40, Tryd.ntmps40
  go_wp2_with (go_at_call 52; refine (abs_any _ _ (by omega) (by omega)).mono ?_; rintro e w' ⟨rfl, rfl⟩)
  go_loopw [0, 1] (fun u v wr => ∃ p q : Int, u = .int .i64 p ∧ v = .int .i64 q ∧ 0 ≤ p ∧ p ≤ 9223372036854775807 ∧ 0 ≤ q ∧ q ≤ 9223372036854775807 ∧ gcdI p q = gcdI a b ∧ Below w.heap.size w wr) (fun _ v _ => (intOf v).toNat)
  case atStart => exact ⟨_, _, rfl, rfl, hx.1, hx.2, hy.1, hy.2, Hg.out, Below.refl _ _⟩
  case round =>
    obtain ⟨p, q, rfl, rfl, hp, hp', hq, hq', hpq, hbw⟩ := hrel
    have Hpq := Lib.hid hpq; clear hpq hx hy
    by_cases h0 : 0 < q
    · have hm : 0 ≤ p % q := Int.emod_nonneg _ (by omega)
      have hm' : p % q < q := Int.emod_lt_of_pos _ h0
      have hne : ¬ q = 0 := by omega
      go_wp2_with fail
      go_quiet (fail)
      go_wp2
      go_roundw
      case rel => exact ⟨q, p % q, rfl, rfl, by omega, by omega, hm, by omega, (gcdI_step p q hp h0).trans Hpq.out, below_drewN hbw _⟩
      case measure => first | (simp [intOf]; done) | (simp [intOf]; omega)
    · have hres : gcdI p q = p := by
        obtain rfl : q = 0 := by omega
        exact gcdI_zero p hp
      have Hres := Lib.hid hres; clear hres
      go_wp2
      go_ret
      exact ⟨ret_i (Hres.out.symm.trans Hpq.out), hbw⟩
theorem l01Gcd_any (a b : Int) (w : World) (ha : -9223372036854775807 ≤ a) (ha' : a ≤ 9223372036854775807) (hb : -9223372036854775807 ≤ b) (hb' : b ≤ 9223372036854775807) :
    Calls Tryd.prog 41 #[.int .i64 a, .int .i64 b] w fun e w' => e = .returned (.int .i64 (gcdI a b)) ∧ w = w' := by
  have hg := gcdI_abs a b
  by_cases h1 : a < 0 <;> by_cases h2 : b < 0 <;> simp only [h1, h2, if_true, if_false] at hg <;>
  · have Hg := Lib.hid hg; clear hg
    go_enter Tryd.func41, Tryd.ntmps41
    go_wp2
    go_loop [0, 1] (fun u v => ∃ p q : Int, u = .int .i64 p ∧ v = .int .i64 q ∧ 0 ≤ p ∧ p ≤ 9223372036854775807 ∧ 0 ≤ q ∧ q ≤ 9223372036854775807 ∧ gcdI p q = gcdI a b) (fun _ v => (intOf v).toNat)
    case atStart => exact ⟨_, _, rfl, rfl, by omega, by omega, by omega, by omega, by first | exact Hg.out | rfl⟩
    case round =>
      obtain ⟨p, q, rfl, rfl, hp, hp', hq, hq', hpq⟩ := hrel
      have Hpq := Lib.hid hpq; clear hpq
      by_cases h0 : 0 < q
      · have hm : 0 ≤ p % q := Int.emod_nonneg _ (by omega)
        have hm' : p % q < q := Int.emod_lt_of_pos _ h0
        have hne : ¬ q = 0 := by omega
        go_wp2
        go_round
        case rel => exact ⟨q, p % q, rfl, rfl, by omega, by omega, hm, by omega, (gcdI_step p q hp h0).trans Hpq.out⟩
        case measure => first | (simp [intOf]; done) | (simp [intOf]; omega)
      · have hres : gcdI p q = p := by
          obtain rfl : q = 0 := by omega
          exact gcdI_zero p hp
        have Hres := Lib.hid hres; clear hres
        go_wp2
        go_ret
        exact ⟨ret_i (Hres.out.symm.trans Hpq.out), rfl⟩
end WA
end Go.Proofs.YtdgjjmkpninnoaaDoor
