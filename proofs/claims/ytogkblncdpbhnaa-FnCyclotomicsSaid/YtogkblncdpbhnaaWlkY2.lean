/-
  WALKS, CHAPTER 2: the reference's cyclotomic polynomial.
-/
import Derived.Test.YtogkblncdpbhnaaWlkY1
import Derived.Test.YtogkblncdpbhnaaPlOx
namespace Go.Proofs.Ytogkblncdpbhnaa
open Go.RowKit
set_option linter.unusedVariables false
namespace WY
open K Pl WA WL WB
theorem phi_one : phi 1 = [-1, 1] := by decide +kernel
set_option maxHeartbeats 4000000 in
theorem l02Cyclotomic_any (n0 : Nat) (w : World) (h1 : 1 ≤ n0) (h2 : n0 ≤ 2000) : Calls Try.prog 21 #[.int .i64 n0] w (Li1 (phi n0) w) := by
  have Hown0 := Lib.hid (show Ow (w.alloc (.cells #[.int .i64 (-1), .int .i64 1] 2)) w.heap.size (w.alloc (.cells #[.int .i64 (-1), .int .i64 1] 2)).heap.size (.slice (some ⟨w.heap.size, 0, none⟩) 2 2) (phi (n0 / n0)) by
    rw [Nat.div_self (by omega), phi_one]
    exact Ow.of_own (World.ownsRow_lit w #[.int .i64 (-1), .int .i64 1] 2 (Nat.le_refl _) (by decide) rfl))
  have hbw : Below w.heap.size w (w.alloc (.cells #[.int .i64 (-1), .int .i64 1] 2)) := (Below.refl _ _).alloc (Nat.le_refl _) _
  go_enter Try.func21, Try.ntmps21
  go_wp2_with fail
  go_loopw [0, 3, 4] (fun a b c wr => ∃ n p : Nat, a = .int .i64 n ∧ c = .int .i64 p ∧ 2 ≤ p ∧ p ≤ n0 + 1 ∧ 1 ≤ n ∧ n ≤ n0 ∧ Hid (cInv n0 n p) ∧ Hid (Ow wr w.heap.size wr.heap.size b (phi (n0 / n))) ∧ Below w.heap.size w wr) (fun _ _ c _ => n0 + 2 - (intOf c).toNat)
  case atStart => exact ⟨n0, 2, rfl, rfl, by omega, by omega, h1, Nat.le_refl _, Lib.hid (cInv_start n0 h1), Hown0, hbw⟩
  case round =>
    obtain ⟨n, p, rfl, rfl, hp, hpn, hn, hnn, Hi, Hown, hbe⟩ := hrel
    clear Hown0 hbw
    by_cases hn1 : 1 < n
    · have t1 : decide ((1 : Int) < (n : Int)) = true := decide_eq_true (by omega)
      have hpl := cInv_le Hi.out hn1
      have hpn2 : p ≤ n0 := by omega
      clear hn1
      go_wp2_with fail
      go_loopw [0, 3, 5] (fun a b f wr => ∃ (n : Nat) (fb : Bool), a = .int .i64 n ∧ f = .bool fb ∧ 1 ≤ n ∧ n ≤ n0 ∧ Hid (if fb = true then cInv n0 n p else cInn n0 n p) ∧ Hid (Ow wr w.heap.size wr.heap.size b (phi (n0 / n))) ∧ Below w.heap.size w wr) (fun a _ _ _ => (intOf a).toNat)
      case atStart => exact ⟨n, true, rfl, rfl, hn, hnn, Lib.hid (by rw [if_pos rfl]; exact Hi.out), Hown, hbe⟩
      case round =>
        clear Hi Hown hbe t1 hn hnn
        obtain ⟨n, fb, rfl, rfl, hn, hnn, Hi, Hown, hbe⟩ := hrel
        have hsz := hbe.size
        have Hml := Lib.hid (show (phi (n0 / n)).length ≤ 2001 by rw [phi_len]; have := totN_le (n0 / n); have := Nat.div_le_self n0 n; omega)
        by_cases hd : n % p = 0
        · have hm : (n : Int).tmod (p : Int) = 0 := by rw [← Int.ofNat_tmod, hd]; rfl
          have hq : (n : Int).tdiv (p : Int) = ((n / p : Nat) : Int) := (Int.ofNat_tdiv n p).symm
          have hp0 : (p : Int) ≠ 0 := by omega
          have hq1 : 1 ≤ n / p := Nat.div_pos (Nat.le_of_dvd hn (Nat.dvd_of_mod_eq_zero hd)) (by omega)
          have hq2 : n / p < n := Nat.div_lt_self hn hp
          cases fb
          · have Hs := c_again h1 h2 hp hd (by simpa using Hi.out)
            have HI := Lib.hid Hs.2
            have HE := Lib.hid Hs.1
            clear Hs Hi hd
            go_wp2_with fail
            refine (l02Spread_any _ _ _ p _ Hown.out.is (Nat.le_refl _) (by omega) (by omega) (by have := Hml.out; omega)).mono ?_
            rintro e w2 ⟨v2, rfl, own2, hb2⟩
            rw [← HE.out] at own2
            have hbe2 := hbe.trans (hb2.mono hsz)
            have Own2 := Lib.hid (own2.wide (lo' := w.heap.size) (hi' := w2.heap.size) hsz (Nat.le_refl _))
            clear own2 hb2 Hown hbe HE Hml
            go_wp2_with fail
            go_roundw
            case rel => exact ⟨n / p, false, rfl, rfl, hq1, by omega, Lib.hid (by simpa using HI.out), Own2, hbe2⟩
            case measure => simp [intOf]; omega
          · have Hs := c_first h1 h2 hp hd (by simpa using Hi.out)
            have HI := Lib.hid Hs.2
            have HE := Lib.hid (show qwS (spread (phi (n0 / n)) p) (phi (n0 / n)) = (phi (n0 / (n / p)), true) by unfold qwS; rw [Hs.1]; rfl)
            have Hsl := Lib.hid (show (spread (phi (n0 / n)) p).length ≤ 2001 by
              have a := c_step h1 h2 hp hd hn (by have := Hi.out; rw [if_pos rfl] at this; exact this.2.1) (by have := Hi.out; rw [if_pos rfl] at this; exact this.2.2.1)
              have b := spread_len (phi (n0 / n)) p
              rw [phi_len, Nat.add_sub_cancel] at b
              have c : totN (n0 / n) * p ≤ n0 / n * p := Nat.mul_le_mul_right _ (totN_le _)
              have d := a.2.2.2.2.2.1
              omega)
            have hy1 : 1 ≤ (phi (n0 / n)).length := by rw [phi_len]; omega
            clear Hs Hi hd
            go_wp2_with fail
            refine (l02Spread_any _ _ _ p _ Hown.out.is (Nat.le_refl _) (by omega) (by omega) (by have := Hml.out; omega)).mono ?_
            rintro e w2 ⟨v2, rfl, own2, hb2⟩
            have hbe2 := hbe.trans (hb2.mono hsz)
            have hsz2 := hbe2.size
            have Own1 := Lib.hid (Hown.out.later hb2)
            have Own2 := Lib.hid (own2.wide (lo' := w.heap.size) (hi' := w2.heap.size) hsz (Nat.le_refl _))
            have hsb := hb2.size
            clear own2 hb2 Hown hbe
            go_wp2_with fail
            refine (l02Quotient_any w2.heap.size _ _ _ _ _ Own2.out.is ((Own1.out.wide (lo' := w.heap.size) (hi' := w2.heap.size) (Nat.le_refl _) hsb).is) (Nat.le_refl _) Hsl.out Hml.out hy1).mono ?_
            rintro e w3 ⟨v3, rfl, own3, hb3⟩
            rw [HE.out] at own3 ⊢
            have hbe3 := hbe2.trans (hb3.mono hsz2)
            have Own3 := Lib.hid (own3.wide (lo' := w.heap.size) (hi' := w3.heap.size) hsz2 (Nat.le_refl _))
            clear own3 hb3 Own1 Own2 hbe2 HE Hml Hsl
            go_wp2_with fail
            go_roundw
            case rel => exact ⟨n / p, false, rfl, rfl, hq1, by omega, Lib.hid (by simpa using HI.out), Own3, hbe3⟩
            case measure => simp [intOf]; omega
        · have hm : ((n : Int) % (p : Int) == 0) = false := by
            rw [beq_eq_false_iff_ne]
            intro e
            have e2 : ((n % p : Nat) : Int) = 0 := by rw [Int.natCast_emod]; exact e
            exact hd (by omega)
          have hp0 : (p : Int) ≠ 0 := by omega
          have HI := Lib.hid (show cInv n0 n (p + 1) by
            cases fb
            · exact c_done hp hd (by simpa using Hi.out)
            · exact c_skip hd (by simpa using Hi.out))
          clear Hi hd Hml
          go_wp2_with fail
          go_roundw
          case rel => exact ⟨n, p + 1, rfl, by go_num, by omega, by omega, hn, hnn, HI, Hown, hbe⟩
          case measure => simp [intOf]; omega
    · obtain rfl : n = 1 := by omega
      rw [Nat.div_one] at Hown
      go_wp2_with fail
      go_ret
      exact ⟨_, rfl, Hown.out, hbe⟩
end WY
end Go.Proofs.Ytogkblncdpbhnaa
