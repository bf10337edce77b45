/-
  WALKS, CHAPTER 2: the reference's test of a binomial product's list.
-/
import Derived.Test.YtbkbcpcdnclffaaWlkG1
namespace Go.Proofs.Ytbkbcpcdnclffaa
open Go.RowKit
set_option linter.unusedVariables false
namespace WB
open K Pl WA WL
theorem okB_hd {s : List Int} (h : inR (gx s 0) 1 2000 = false) : okB s = false := by unfold okB; rw [h]; simp
theorem okB_sn {s : List Int} (h : inR (gx s 1) (-20) 20 = false) : okB s = false := by unfold okB; rw [h]; simp
theorem okB_ln {s : List Int} (h : s.length ≠ 2) : okB s = false := by unfold okB; simp [h]
theorem dgB_pos {xss : List (List Int)} {k : Nat} (h : 0 < gx (gxx xss k) 1) : dgB xss k + gx (gxx xss k) 0 * gx (gxx xss k) 1 = dgB xss (k + 1) := by
  rw [dgB_succ, show max (gx (gxx xss k) 1) 0 = gx (gxx xss k) 1 by omega]
theorem dgB_neg {xss : List (List Int)} {k : Nat} (h : ¬ 0 < gx (gxx xss k) 1) : dgB xss k = dgB xss (k + 1) := by
  rw [dgB_succ, show max (gx (gxx xss k) 1) 0 = 0 by omega]; omega
theorem mul_bd {a b : Int} (ha : 1 ≤ a ∧ a ≤ 2000) (hb : -20 ≤ b ∧ b ≤ 20) : -40000 ≤ a * b ∧ a * b ≤ 40000 := by
  have h1 : (a * b).natAbs = a.natAbs * b.natAbs := Int.natAbs_mul a b
  have h2 : a.natAbs * b.natAbs ≤ 2000 * 20 := Nat.mul_le_mul (by omega) (by omega)
  omega
set_option maxHeartbeats 1600000 in
theorem l02Binomials_any (B : Nat) (v : Value) (xss : List (List Int)) (w : World) (h : IsR w B v xss) (hB : B ≤ w.heap.size) :
    Calls Try.prog 40 #[v] w fun e w' => e = .returned (.int .i64 (codB xss)) ∧ Below w.heap.size w w' := by
  obtain ⟨us, hU⟩ := h
  obtain ⟨A, c, rfl, hnc, hcm, hrd⟩ := hU.sh
  have He := Lib.hid hU.each
  obtain ⟨n, Hn⟩ : ∃ n, Hid (xss.length = n) := ⟨_, Lib.hid rfl⟩
  rw [Hn.out] at hnc hrd
  rw [Hn.out]
  unfold maxLen at hcm
  clear hU
  by_cases h6 : 40 < n
  · have Hr := Lib.hid (codB_long (xss := xss) (by rw [Hn.out]; exact h6))
    have h6' : (40 : Int) < (n : Int) := by omega
    go_enter Try.func40, Try.ntmps40
    go_wp2
    go_ret
    exact ⟨ret_i Hr.out.symm, Below.refl _ _⟩
  · have h6' : ¬ (40 : Int) < (n : Int) := by omega
    go_enter Try.func40, Try.ntmps40
    go_wp2
    go_loopw [3, 4] (fun m i wr => ∃ k : Nat, k ≤ n ∧ i = .int .i64 k ∧ m = .int .i64 (dgB xss k) ∧ Hid (∀ j, j < k → okB (gxx xss j) = true) ∧ Below w.heap.size w wr) (fun m i _ => n - (intOf i).toNat)
    case atStart => exact ⟨0, Nat.zero_le _, rfl, rfl, Lib.hid (fun j h1 => by omega), Below.refl _ _⟩
    case round =>
      obtain ⟨k, hk, rfl, rfl, hpre, hbe⟩ := hrel
      have hdg := dgB_bd k hpre.out
      by_cases hlt : k < n
      · obtain ⟨ad, rfl, hab, hc⟩ := hrd (by omega)
        have hc1 : wr.cell? (ad.add k) = some (ux us k) := (hbe.cell (by rw [block_of_add]; omega)).trans (hc k hlt)
        have Hek := Lib.hid (He.out k (by rw [Hn.out]; exact hlt))
        obtain ⟨Ak, nk, ck, euk, hnck, hcmk, hrdk⟩ := Hek.out
        rw [euk] at hc1
        have Hlk := Lib.hid hrdk.len
        have hi1 : 0 ≤ (k : Int) ∧ (k : Int) < (n : Int) := by omega
        unfold maxLen at hcmk
        clear hc euk
        by_cases hl2 : nk = 2
        · have hne : ((nk : Int) != 2) = false := by rw [hl2]; rfl
          obtain ⟨ak, rfl, habk, hck⟩ := hrdk.pos (by omega)
          have hck0 : wr.cell? ak = some (.int .i64 (gx (gxx xss k) 0)) := by have := (hbe.cell (p := ak.add 0) (by rw [block_of_add]; omega)).trans (hck 0 (by omega)); simpa [Addr.add] using this
          have hck1 : wr.cell? ⟨ak.block, ak.off + 1, none⟩ = some (.int .i64 (gx (gxx xss k) 1)) := by have := (hbe.cell (p := ak.add 1) (by rw [block_of_add]; omega)).trans (hck 1 (by omega)); simpa [Addr.add] using this
          have hk0 : (0 : Int) < (nk : Int) := by omega
          have hk1 : (1 : Int) < (nk : Int) := by omega
          have hk2 : 0 < nk := by omega
          have hk3 : 1 < nk := by omega
          have Hnk := Lib.hid hl2
          clear hrdk hck hl2
          cases hH : inR (gx (gxx xss k) 0) 1 2000
          · have Hr := Lib.hid (codB_bad (allB_no k (by rw [Hn.out]; exact hlt) (okB_hd hH)))
            go_wp2_with (go_at_call 49; refine (l01In_any _ _ _ _).mono ?_; rintro e w' ⟨rfl, rfl⟩)
            go_ret
            exact ⟨ret_i Hr.out.symm, hbe⟩
          · cases hS : inR (gx (gxx xss k) 1) (-20) 20
            · have Hr := Lib.hid (codB_bad (allB_no k (by rw [Hn.out]; exact hlt) (okB_sn hS)))
              go_wp2_with (go_at_call 49; refine (l01In_any _ _ _ _).mono ?_; rintro e w' ⟨rfl, rfl⟩)
              go_ret
              exact ⟨ret_i Hr.out.symm, hbe⟩
            · have hok : okB (gxx xss k) = true := okB_true.2 ⟨by rw [Hlk.out, Hnk.out], inR_true.1 hH, inR_true.1 hS⟩
              have Hpre2 := Lib.hid (show ∀ j, j < k + 1 → okB (gxx xss j) = true from fun j h2 => by
                rcases Nat.lt_or_ge j k with h3 | h3
                · exact hpre.out j h3
                · obtain rfl : j = k := by omega
                  exact hok)
              have hm := mul_bd (inR_true.1 hH) (inR_true.1 hS)
              clear hok
              by_cases hp : 0 < gx (gxx xss k) 1
              · have Hs := Lib.hid (dgB_pos hp)
                go_wp2_with (go_at_call 49; refine (l01In_any _ _ _ _).mono ?_; rintro e w' ⟨rfl, rfl⟩)
                go_quiet (fail)
                go_wp2
                go_roundw
                case rel => exact ⟨k + 1, by omega, by go_num, by rw [← Hs.out], Hpre2, below_drewN hbe _⟩
                case measure => first | (simp [intOf]; done) | (simp [intOf]; omega)
              · have Hs := Lib.hid (dgB_neg hp)
                go_wp2_with (go_at_call 49; refine (l01In_any _ _ _ _).mono ?_; rintro e w' ⟨rfl, rfl⟩)
                go_roundw
                case rel => exact ⟨k + 1, by omega, by go_num, by rw [← Hs.out], Hpre2, hbe⟩
                case measure => first | (simp [intOf]; done) | (simp [intOf]; omega)
        · have hne : ((nk : Int) != 2) = true := by rw [bne_iff_ne]; omega
          have Hr := Lib.hid (codB_bad (allB_no k (by rw [Hn.out]; exact hlt) (okB_ln (by rw [Hlk.out]; exact hl2))))
          clear hrdk
          go_wp2_with fail
          go_ret
          exact ⟨ret_i Hr.out.symm, hbe⟩
      · have hkn : k = n := by omega
        subst hkn
        have Ha := Lib.hid (show allB xss = true from allB_true.2 fun i hi => hpre.out i (by rw [Hn.out] at hi; exact hi))
        by_cases hbig : 2000 < dgB xss k
        · have Hr := Lib.hid (codB_deg (by rw [Hn.out]; omega) Ha.out (by rw [Hn.out]; exact hbig))
          go_wp2
          go_ret
          exact ⟨ret_i Hr.out.symm, hbe⟩
        · have Hr := Lib.hid (codB_ok (by rw [Hn.out]; omega) Ha.out (by rw [Hn.out]; exact hbig))
          go_wp2
          go_ret
          exact ⟨ret_i Hr.out.symm, hbe⟩
end WB
end Go.Proofs.Ytbkbcpcdnclffaa
