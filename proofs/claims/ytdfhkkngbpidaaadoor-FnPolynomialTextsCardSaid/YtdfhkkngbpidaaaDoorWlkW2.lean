/-
  WALKS, TEXTS: decimal numerals by recursion.
-/
import Derived.Test.YtdfhkkngbpidaaaDoorWlkW1
import Derived.Deep.RegionHeld3
import Derived.Laws.BytesArg
import Derived.RegionCalls
namespace Go.Proofs.YtdfhkkngbpidaaaDoor
open Go.RowKit
set_option linter.unusedVariables false
namespace WW
open K Pl
theorem run_conv1 (W : World) (g o c : Nat) (x : Int) (hc : W.cell? ⟨g, o, none⟩ = some (.int .u8 x)) : (convert 22 9 (.slice (some ⟨g, o, none⟩) 1 c)).run Tryd.prog W = .ok (.string (S [UInt8.ofNat x.toNat])) W := by
  have := run_convert_bytes_arg (P := Tryd.prog) W 22 5 Tryd.underlying22 Tryd.underlying5 g o 1 c [x] rfl (by
    intro i hi
    obtain rfl : i = 0 := by omega
    simpa using hc) 9 Tryd.underlying9
  rw [this]; rfl
theorem cell_new {W w1 : World} {x : Value} {t : TypeId} (hb : Below (W.alloc (.cells #[x] t)).drew.heap.size (W.alloc (.cells #[x] t)).drew w1) : w1.cell? ⟨W.heap.size, 0, none⟩ = some x :=
  (hb.cell (p := ⟨W.heap.size, 0, none⟩) (by simp)).trans (by simp [go_sem])
set_option maxHeartbeats 1600000 in
theorem l01Dec_any (n : Nat) : ∀ (w : World), n ≤ 1000000000000000 → Calls Tryd.prog 45 #[.int .i64 (n : Int)] w fun e w' => e = .returned (.string (S (dec n))) ∧ Below w.heap.size w w' := by
  induction n using Nat.strongRecOn with
  | _ n ih =>
    intro w hn
    have hcv := run_conv1
    by_cases h : n < 10
    · have hd : (n : Int) < 10 := by omega
      have Hr := Lib.hid (dec_small h)
      go_enter Tryd.func45, Tryd.ntmps45
      go_wp2_with fail
      go_ret
      exact ⟨ret_s (by rw [Hr.out]), (Below.refl _ _).alloc (Nat.le_refl _) _⟩
    · have hd : ¬ (n : Int) < 10 := by omega
      have Hr := Lib.hid (dec_big h)
      have IH := ih (n / 10) (by omega)
      clear ih
      obtain ⟨q, hq⟩ : ∃ q, q = n / 10 := ⟨_, rfl⟩
      obtain ⟨m, hm⟩ : ∃ m, m = n % 10 := ⟨_, rfl⟩
      rw [← hq, ← hm] at Hr
      rw [← hq] at IH
      have h1 : (n : Int).tdiv 10 = (q : Int) := by rw [Int.tdiv_eq_ediv_of_nonneg (by omega), hq]; omega
      have h2 : (n : Int) / 10 = (q : Int) := by rw [hq]; omega
      have h3 : (n : Int).tmod 10 = (m : Int) := by rw [Int.tmod_eq_emod_of_nonneg (by omega), hm]; omega
      have h4 : (n : Int) % 10 = (m : Int) := by rw [hm]; omega
      have h5 : IntKind.i64.wrap (48 + (m : Int)) = 48 + (m : Int) := IntWalk.i64_in _ (by omega)
      have h6 : IntKind.i64.wrap (q : Int) = (q : Int) := IntWalk.i64_in _ (by omega)
      have h7 : IntKind.u8.wrap (48 + (m : Int)) = 48 + (m : Int) := by simp [IntKind.wrap, IntKind.bits, IntKind.signed]; omega
      have hqn : q ≤ 1000000000000000 := by omega
      have hz1 : (S (dec q)).size ≤ 16 := by
        rw [S_size, dec_len]; exact nD_le 16 q (by decide) (by rw [show (10 : Nat) ^ 16 = 10000000000000000 by decide]; omega)
      have hz2 : (S [UInt8.ofNat (48 + m)]).size = 1 := rfl
      have hz3 : ¬ (9223372036854775807 < (S (dec q)).size + 1) := by omega
      clear hq hm h
      go_enter Tryd.func45, Tryd.ntmps45
      go_wp2_with fail
      go_region_with (go_at_call 45; refine (IH _ hqn).mono ?_; rintro e w1 ⟨rfl, hb⟩; (first | (have z := cell_new hb) | skip))
      all_goals
        go_wp2_with fail
        go_ret
        have e48 : (48 : UInt8) + UInt8.ofNat m = UInt8.ofNat (48 + m) := by simp
        refine ⟨ret_s (by rw [Hr.out, ← S_append, ← e48]), ?_⟩
        first
          | exact ((below_drewN (Below.refl _ _) 1).trans (hb.mono (Nat.le_refl _))).alloc (by have := hb.size; simpa using this) _
          | exact ((below_drewN ((Below.refl _ _).alloc (Nat.le_refl _) _) 1).trans (hb.mono (by simp)))
          | trace_state
set_option maxHeartbeats 1600000 in
theorem l01Value_any (s : ByteArray) (w : World) (hs : s.size ≤ 20000000000000) : Calls Tryd.prog 48 #[.string s] w fun e w' => e = .returned (.int .i64 (vlI (L s))) ∧ w = w' := by
  have Hlen := Lib.hid (L_len s)
  by_cases h0 : s.size = 0
  · have Hr := Lib.hid (show vlI (L s) = -1 from vlI_no (by unfold vlOk; rw [L_len, h0]; rfl))
    have e0 : ((s.size : Int) == 0) = true := beqT (by omega)
    clear h0
    go_enter Tryd.func48, Tryd.ntmps48
    go_wp2
    go_ret
    exact ⟨by rw [Hr.out]; rfl, rfl⟩
  · have e0 : ((s.size : Int) == 0) = false := beqF (by omega)
    by_cases h9 : 9 < s.size
    · have Hr := Lib.hid (show vlI (L s) = -1 from vlI_no (by unfold vlOk; rw [L_len, decide_eq_false (show ¬ s.size ≤ 9 by omega)]; simp))
      have e9 : decide ((9 : Int) < (s.size : Int)) = true := by simp; omega
      clear h0 h9
      go_enter Tryd.func48, Tryd.ntmps48
      go_wp2
      go_ret
      exact ⟨by rw [Hr.out]; rfl, rfl⟩
    · have e9 : decide ((9 : Int) < (s.size : Int)) = false := by simp; omega
      have hs0 : 0 < s.size := by omega
      by_cases hl : 1 < s.size ∧ bx (L s) 0 = 48
      · obtain ⟨l1, l2⟩ := hl
        have Hr := Lib.hid (show vlI (L s) = -1 from vlI_no (by unfold vlOk; rw [L_len, bx_head _ (by rw [L_len]; omega), l2, decide_eq_true l1]; simp))
        have e1 : decide ((1 : Int) < (s.size : Int)) = true := by simp; omega
        have e2 : (((s[0]'hs0).toNat : Int) == 48) = true := by rw [L_at s 0 hs0, l2]; rfl
        clear h0 h9 l1 l2
        go_enter Tryd.func48, Tryd.ntmps48
        go_wp2
        go_ret
        exact ⟨by rw [Hr.out]; rfl, rfl⟩
      · have Hl := Lib.hid hl
        have e3 : decide ((1 : Int) < (s.size : Int)) = false ∨ (decide ((1 : Int) < (s.size : Int)) = true ∧ (((s[0]'hs0).toNat : Int) == 48) = false) := by
          by_cases hk1 : 1 < s.size
          · right
            refine ⟨by simp; omega, ?_⟩
            rw [L_at s 0 hs0]
            exact bytes_ne (d := 48) (fun e => hl ⟨hk1, e⟩)
          · left; simp; omega
        have h9' : s.size ≤ 9 := by omega
        clear h0 h9 hl
        rcases e3 with e3 | ⟨e3, e4⟩
        all_goals
          go_enter Tryd.func48, Tryd.ntmps48
          go_wp2
          go_loop [3, 4] (fun n i => ∃ k : Nat, k ≤ s.size ∧ i = .int .i64 k ∧ n = .int .i64 (vlL ((L s).take k) : Int) ∧ Hid (∀ j, j < k → isD (bx (L s) j) = true)) (fun _ i => s.size - (intOf i).toNat)
          case atStart => exact ⟨0, Nat.zero_le _, rfl, rfl, Lib.hid (fun j hj => by omega)⟩
          case round =>
            obtain ⟨k, hk, rfl, rfl, Hd⟩ := hrel
            by_cases hlt : k < s.size
            · cases hD : isD (bx (L s) k)
              · have Hr := Lib.hid (show vlI (L s) = -1 from vlI_no (by
                  cases hv : vlOk (L s)
                  · rfl
                  · have := ((vlOk_iff _).1 hv).2.2 (bx (L s) k) (by rw [bx_eq _ _ (by rw [L_len]; exact hlt)]; exact List.getElem_mem _)
                    rw [hD] at this; cases this))
                have hx : decide (((s[k]'hlt).toNat : Int) < 48) = true ∨ (decide (((s[k]'hlt).toNat : Int) < 48) = false ∧ decide ((57 : Int) < ((s[k]'hlt).toNat : Int)) = true) := by
                  rw [L_at s k hlt]
                  have h2 : ¬ (48 ≤ (bx (L s) k).toNat ∧ (bx (L s) k).toNat ≤ 57) := fun h => by rw [isD_true.2 h] at hD; cases hD
                  simp only [decide_eq_true_eq, decide_eq_false_iff_not]
                  omega
                clear hD
                rcases hx with h48 | ⟨h48, h57⟩
                all_goals
                  go_wp2
                  go_ret
                  exact ⟨by rw [Hr.out]; rfl, rfl⟩
              · have hb := isD_true.1 hD
                rw [← L_at s k hlt] at hb
                have hb1 : (48 : Int) ≤ ((s[k]'hlt).toNat : Int) := by omega
                have hb2 : ((s[k]'hlt).toNat : Int) ≤ 57 := by omega
                have h48 : decide (((s[k]'hlt).toNat : Int) < 48) = false := by simp; omega
                have h57 : decide ((57 : Int) < ((s[k]'hlt).toNat : Int)) = false := by simp; omega
                have hv : (vlL ((L s).take k) : Int) < 1000000000 := by
                  have h1 := vlL_lt ((L s).take k) (by
                    intro c hc
                    obtain ⟨j, hj, rfl⟩ := List.getElem_of_mem hc
                    have hj2 : j < k := by simp at hj; omega
                    have := Hd.out j hj2
                    rw [bx_eq _ _ (by rw [L_len]; omega)] at this
                    simpa using this)
                  have h2 : 10 ^ ((L s).take k).length ≤ 10 ^ 9 := Nat.pow_le_pow_right (by decide) (by simp; omega)
                  have h3 : (10 : Nat) ^ 9 = 1000000000 := by decide
                  omega
                have hv0 : (0 : Int) ≤ (vlL ((L s).take k) : Int) := by omega
                have Hstep := Lib.hid (show (vlL ((L s).take k) : Int) * 10 + (((s[k]'hlt).toNat : Int) - 48) = (vlL ((L s).take (k + 1)) : Int) by
                  rw [bx_take _ _ (by rw [L_len]; exact hlt), vlL_snoc, ← L_at s k hlt]
                  unfold dig; omega)
                have Hd2 := Lib.hid (show ∀ j, j < k + 1 → isD (bx (L s) j) = true from fun j hj => by
                  rcases Nat.lt_or_eq_of_le (Nat.le_of_lt_succ hj) with h | rfl
                  · exact Hd.out j h
                  · exact hD)
                clear hD hb Hd
                go_wp2
                go_round
                case rel => exact ⟨k + 1, by omega, by go_num, by rw [← Hstep.out], Hd2⟩
                case measure => simp [intOf]; omega
            · have Hr := Lib.hid (show vlI (L s) = vlL ((L s).take k) by
                have hk2 : k = s.size := by omega
                rw [List.take_of_length_le (by rw [L_len]; omega)]
                refine vlI_yes ((vlOk_iff _).2 ⟨⟨by rw [L_len]; omega, by rw [L_len]; omega⟩, ?_, ?_⟩)
                · rintro ⟨q1, q2⟩
                  rw [L_len] at q1
                  rw [bx_head _ (by rw [L_len]; omega)] at q2
                  exact Hl.out ⟨q1, Option.some.inj q2⟩
                · intro c hc
                  obtain ⟨j, hj, rfl⟩ := List.getElem_of_mem hc
                  rw [L_len] at hj
                  have := Hd.out j (by omega)
                  rwa [bx_eq _ _ (by rw [L_len]; omega)] at this)
              go_wp2
              go_ret
              exact ⟨by rw [Hr.out]; rfl, rfl⟩
end WW
end Go.Proofs.YtdfhkkngbpidaaaDoor
