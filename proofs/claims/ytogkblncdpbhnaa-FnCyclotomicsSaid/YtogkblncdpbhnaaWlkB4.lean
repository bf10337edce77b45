/-
  WALKS, CHAPTER 2: the reversed polynomial; is a polynomial symmetric.
-/
import Derived.Test.YtogkblncdpbhnaaWlkBA
import Derived.Test.YtogkblncdpbhnaaWlkL3
namespace Go.Proofs.Ytogkblncdpbhnaa
open Go.RowKit
set_option linter.unusedVariables false
namespace WB
open K Pl WA WL
theorem rd_take {w : World} {B n k : Nat} {A : Option Addr} {xs : List Int} (h : Rd w B A n xs) (hk : k ≤ n) : Rd w B A k (xs.take k) :=
  ⟨by have := h.len; simp; omega, fun h0 => by
    obtain ⟨ad, e, hb, hc⟩ := h.pos (by omega)
    exact ⟨ad, e, hb, fun j hj => by rw [gx_take xs k j hj]; exact hc j (by omega)⟩⟩
set_option maxHeartbeats 400000 in
theorem l02Trim_any (B : Nat) (v : Value) (xs : List Int) (w : World) (h : Is w B v xs) (hB : B ≤ w.heap.size) (hn : xs.length < 1000000000) : Calls Try.prog 50 #[v] w (Li1 (trimL xs) w) := by
  obtain ⟨A, n, c, rfl, hnc, hcm, hrd⟩ := h
  have Hlen := Lib.hid hrd.len
  have hn' : n < 1000000000 := by rw [← hrd.len]; exact hn
  unfold maxLen at hcm
  clear hn
  go_enter Try.func50, Try.ntmps50
  go_wp2
  go_loop [3] (fun u => ∃ k : Nat, k ≤ n ∧ u = .int .i64 (k : Int) ∧ Hid (trimL (xs.take k) = trimL xs)) (fun u => (intOf u).toNat)
  case atStart => exact ⟨n, Nat.le_refl _, rfl, Lib.hid (by rw [List.take_of_length_le (by rw [Hlen.out]; exact Nat.le_refl _)])⟩
  case round =>
    obtain ⟨k, hk, rfl, ht⟩ := hrel
    by_cases hk0 : 0 < k
    · obtain ⟨ad, rfl, hab, hc⟩ := hrd.pos (by omega)
      have hc1 := hc (k - 1) (by omega)
      have hi1 : 0 ≤ (k : Int) - 1 ∧ (k : Int) - 1 < (n : Int) := by omega
      have ek : k = (k - 1) + 1 := by omega
      by_cases hz : gx xs (k - 1) = 0
      · have he : (gx xs (k - 1) == 0) = true := by simp [hz]
        have Ht := Lib.hid (show trimL (xs.take (k - 1)) = trimL xs by
          have e := trimL_take_zero xs (k - 1) (by rw [Hlen.out]; omega) hz
          rw [← ek, ht.out] at e; exact e.symm)
        have hcast : (k : Int) - 1 = ((k - 1 : Nat) : Int) := by omega
        have Hcast := Lib.hid hcast
        clear hz hc ek hcast
        go_wp2
        go_round
        case rel => exact ⟨k - 1, by omega, by rw [Hcast.out], Ht⟩
        case measure => first | (simp [intOf]; done) | (simp [intOf]; omega)
      · have he : (gx xs (k - 1) == 0) = false := by simp [hz]
        have Ht := Lib.hid (show xs.take k = trimL xs by
          have e := trimL_take_stop xs (k - 1) (by rw [Hlen.out]; omega) hz
          rw [← ek, ht.out] at e; exact e.symm)
        have his : Is w B (.slice (some ad) k c) (xs.take k) := ⟨_, k, c, rfl, by omega, hcm, rd_take hrd hk⟩
        have His := Lib.hid his
        clear hz hc ek his
        go_wp2_with fail
        refine (l01Own_any B _ (xs.take k) _ His.out hB (by simp; omega)).mono ?_
        rintro e w1 ⟨v1, rfl, own1, hb1⟩
        go_wp2_with fail
        go_ret
        exact ⟨v1, rfl, by rw [← Ht.out]; exact own1, hb1⟩
    · obtain rfl : k = 0 := by omega
      have Ht := Lib.hid (show xs.take 0 = trimL xs by rw [← ht.out]; simp [trimL])
      have his : Is w B (.slice A 0 c) (xs.take 0) := ⟨_, 0, c, rfl, by omega, hcm, rd_take hrd hk⟩
      have His := Lib.hid his
      clear his
      go_wp2_with fail
      refine (l01Own_any B _ (xs.take 0) _ His.out hB (by simp)).mono ?_
      rintro e w1 ⟨v1, rfl, own1, hb1⟩
      go_wp2_with fail
      go_ret
      exact ⟨v1, rfl, by rw [← Ht.out]; exact own1, hb1⟩
theorem reversed_any (B : Nat) (v : Value) (xs : List Int) (w : World) (h : Is w B v xs) (hB : B ≤ w.heap.size) (hn : xs.length < 1000000000) : Calls Try.prog 40 #[v] w (Li1 xs.reverse w) := by
  have Hp := Lib.hid h
  clear h
  go_enter Try.func40, Try.ntmps40
  go_wp2_with fail
  refine (Clone_any B v xs _ Hp.out hB hn).mono ?_
  rintro e w1 ⟨v1, rfl, own1, hb1⟩
  go_wp2_with fail
  refine (Reverse_any _ _ v1 xs _ own1).mono ?_
  rintro e w2 ⟨rfl, own2, hc2⟩
  go_wp2_with fail
  go_ret
  have hs := hb1.size
  refine ⟨v1, rfl, ⟨own2.1, fun k hk => ?_⟩, hb1.trans (hc2.below hs (.inl (Nat.le_refl _)))⟩
  exact Nat.lt_of_lt_of_le (own2.2 k hk) hc2.size
theorem IsSymmetricPolynomial_any (B : Nat) (v : Value) (xs : List Int) (w : World) (h : Is w B v xs) (hB : B ≤ w.heap.size) : Calls Try.prog 15 #[v] w fun e w' => e = .returned (.tuple #[.bool (symP xs).1, .int .i64 (symP xs).2]) ∧ Below w.heap.size w w' := by
  have Hp := Lib.hid h
  clear h
  cases hP : isPoly xs
  · have Hr := Lib.hid (show symP xs = (false, 1) by unfold symP; rw [hP]; rfl)
    go_enter Try.func15, Try.ntmps15
    go_wp2_with fail
    refine (IsPolynomial_any B v xs _ Hp.out hB).mono ?_
    rintro e w' ⟨rfl, rfl⟩
    rw [hP]
    go_wp2_with fail
    go_ret2
    exact ⟨by rw [Hr.out]; rfl, Below.refl _ _⟩
  · have Hr := Lib.hid (show symP xs = (xs == xs.reverse, 0) by unfold symP; rw [hP]; rfl)
    have hlen := (isPoly_true.1 hP).1
    go_enter Try.func15, Try.ntmps15
    go_wp2_with fail
    refine (IsPolynomial_any B v xs _ Hp.out hB).mono ?_
    rintro e w' ⟨rfl, rfl⟩
    rw [hP]
    go_wp2_with fail
    refine (reversed_any B v xs _ Hp.out hB (by omega)).mono ?_
    rintro e w1 ⟨v1, rfl, own1, hb1⟩
    have hs := hb1.size
    go_wp2_with fail
    refine (Equal_any B _ v v1 xs xs.reverse _ (Hp.out.below (hb1.mono hB)) own1.is (Nat.le_trans hB hs) (Nat.le_refl _)).mono ?_
    rintro e w2 ⟨rfl, hb2⟩
    go_wp2_with fail
    go_ret2
    exact ⟨by rw [Hr.out]; rfl, hb1.trans (hb2.mono hs)⟩
end WB
end Go.Proofs.Ytogkblncdpbhnaa
