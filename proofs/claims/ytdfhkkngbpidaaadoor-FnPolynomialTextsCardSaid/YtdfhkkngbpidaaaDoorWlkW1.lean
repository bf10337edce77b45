/-
  WALKS, TEXTS: the digits that a text begins with; numbers; a text cut at a byte.
-/
import Derived.Test.YtdfhkkngbpidaaaDoorKitW
import Derived.Deep.QuietTactic
import Derived.BigQuiet
namespace Go.Proofs.YtdfhkkngbpidaaaDoor
open Go.RowKit
set_option linter.unusedVariables false
namespace WW
open K Pl
/-- A pure function's world: only draws. -/
def Pu (v : Value) (w : World) (e : Ending) (w' : World) : Prop := e = .returned v ∧ ∃ n, w.drewN n = w'
theorem Pu.below {v : Value} {w w' : World} {e : Ending} (h : Pu v w e w') : e = .returned v ∧ Below w.heap.size w w' := by
  obtain ⟨h1, n, rfl⟩ := h
  exact ⟨h1, below_drewN (Below.refl _ _) n⟩
theorem Pu.zero {v v' : Value} {w : World} (h : v' = v) : Pu v w (.returned v') w := ⟨by rw [h], 0, rfl⟩
theorem isD_le {c : UInt8} (h : isD c = true) : decide ((48 : Int) ≤ (c.toNat : Int)) = true ∧ decide ((c.toNat : Int) ≤ 57) = true := by
  have := isD_true.1 h
  exact ⟨decide_eq_true (by omega), decide_eq_true (by omega)⟩
set_option maxHeartbeats 1600000 in
theorem digitsOf_any (s : ByteArray) (w : World) (hs : s.size ≤ 20000000000000) :
    Calls Tryd.prog 47 #[.string s] w (Pu (.tuple #[.int .i64 ((dgR (L s)).1 : Int), .string (S (dgR (L s)).2.1), .bool (dgR (L s)).2.2]) w) := by
  have Hlen := Lib.hid (L_len s)
  go_enter Tryd.func47, Tryd.ntmps47
  go_wp2
  go_loop [5, 6] (fun n i => ∃ k : Nat, k ≤ s.size ∧ k ≤ 9 ∧ i = .int .i64 k ∧ n = .int .i64 (vlL ((L s).take k) : Int) ∧ Hid (∀ j, j < k → isD (bx (L s) j) = true)) (fun _ i => s.size - (intOf i).toNat)
  case atStart => exact ⟨0, Nat.zero_le _, by omega, rfl, rfl, Lib.hid (fun j hj => by omega)⟩
  case round =>
    obtain ⟨k, hk, hk9, rfl, rfl, Hd⟩ := hrel
    by_cases hlt : k < s.size
    · cases hD : isD (bx (L s) k)
      · have Hdk := Lib.hid (show dk (L s) = k from dk_eq (by rw [L_len]; omega) Hd.out (.inr hD))
        have hx : (decide ((48 : Int) ≤ ((s[k]'hlt).toNat : Int)) = true ∧ decide (((s[k]'hlt).toNat : Int) ≤ 57) = false) ∨ decide ((48 : Int) ≤ ((s[k]'hlt).toNat : Int)) = false := by
          rw [L_at s k hlt]
          have h2 : ¬ (48 ≤ (bx (L s) k).toNat ∧ (bx (L s) k).toNat ≤ 57) := fun h => by rw [isD_true.2 h] at hD; cases hD
          simp only [decide_eq_true_eq, decide_eq_false_iff_not]
          omega
        clear hD
        by_cases k0 : k = 0
        · have Hr := Lib.hid (dgR_no (dgB_nil (by rw [Hdk.out, k0])))
          subst k0
          rcases hx with ⟨h48, h57⟩ | h48
          all_goals
            go_wp2
            go_ret3
            exact Pu.zero (by rw [Hr.out]; rfl)
        · have e0 : ((k : Int) == 0) = false := by simp; omega
          have hs0 : 0 < s.size := by omega
          by_cases k1 : 1 < k ∧ bx (L s) 0 = 48
          · obtain ⟨k1, k2⟩ := k1
            have Hr := Lib.hid (dgR_no (dgB_lead (by rw [Hdk.out]; exact k1) k2))
            have e1 : decide ((1 : Int) < (k : Int)) = true := by simp; omega
            have e2 : (((s[0]'hs0).toNat : Int) == 48) = true := by rw [L_at s 0 hs0, k2]; rfl
            clear k0 k2
            rcases hx with ⟨h48, h57⟩ | h48
            all_goals
              go_wp2
              go_ret3
              exact Pu.zero (by rw [Hr.out]; rfl)
          · have Hr := Lib.hid (dgR_yes (dgB_yes (by rw [Hdk.out]; omega) (by rw [Hdk.out]; exact hk9) (by rw [Hdk.out]; exact k1)))
            have Hres := Lib.hid (show S ((L s).drop k) = s.extract k s.size from S_ext (by rw [L_S, L_extract, List.take_of_length_le (by simp [L_len])]))
            have e3 : decide ((1 : Int) < (k : Int)) = false ∨ (decide ((1 : Int) < (k : Int)) = true ∧ (((s[0]'hs0).toNat : Int) == 48) = false) := by
              by_cases hk1 : 1 < k
              · right
                refine ⟨by simp; omega, ?_⟩
                rw [L_at s 0 hs0]
                exact bytes_ne (d := 48) (fun e => k1 ⟨hk1, e⟩)
              · left; simp; omega
            clear k0 k1
            have hkI : (0 : Int) ≤ (k : Int) ∧ (k : Int) ≤ (s.size : Int) := by omega
            rcases e3 with e3 | ⟨e3, e4⟩
            all_goals
              rcases hx with ⟨h48, h57⟩ | h48
              all_goals
                go_wp2
                go_quiet (fail)
                go_wp2
                go_ret3
                exact ⟨by rw [Hr.out, Hdk.out, ← Hres.out]; first | rfl | simp, _, rfl⟩
      · have hx := isD_le hD
        rw [← L_at s k hlt] at hx
        obtain ⟨h48, h57⟩ := hx
        have hD2 := Lib.hid (show ∀ j, j ≤ k → isD (bx (L s) j) = true from fun j hj => by
          rcases Nat.lt_or_eq_of_le hj with h | rfl
          · exact Hd.out j h
          · exact hD)
        by_cases h9 : k = 9
        · have Hr := Lib.hid (dgR_no (dgB_nine (s := L s) (by have := dk_gt (s := L s) (i := k) (by rw [L_len]; exact hlt) hD2.out; omega)))
          have e9 : ((k : Int) == 9) = true := by simp; omega
          clear h9 hD hk9
          go_wp2
          go_ret3
          exact Pu.zero (by rw [Hr.out]; rfl)
        · have e9 : ((k : Int) == 9) = false := by simp; omega
          have hv : (vlL ((L s).take k) : Int) < 1000000000 := by
            have h1 := vlL_lt ((L s).take k) (by
              intro c hc
              obtain ⟨j, hj, rfl⟩ := List.getElem_of_mem hc
              have hj2 : j < k := by simp at hj; omega
              have := Hd.out j hj2
              rw [bx_eq _ _ (by rw [L_len]; omega)] at this
              simpa using this)
            have h2 : 10 ^ ((L s).take k).length ≤ 10 ^ 9 := Nat.pow_le_pow_right (by decide) (by simp; omega)
            have h3 : (10 : Nat) ^ 9 = 1000000000 := by decide
            omega
          have hv0 : (0 : Int) ≤ (vlL ((L s).take k) : Int) := by omega
          have hb := isD_true.1 hD
          rw [← L_at s k hlt] at hb
          have hb1 : (48 : Int) ≤ ((s[k]'hlt).toNat : Int) := by omega
          have hb2 : ((s[k]'hlt).toNat : Int) ≤ 57 := by omega
          have Hstep := Lib.hid (show (10 : Int) * (vlL ((L s).take k) : Int) + (((s[k]'hlt).toNat : Int) - 48) = (vlL ((L s).take (k + 1)) : Int) by
            rw [bx_take _ _ (by rw [L_len]; exact hlt), vlL_snoc, ← L_at s k hlt]
            unfold dig; omega)
          have hk8 : k + 1 ≤ 9 := by omega
          clear h9 hD hb Hd
          go_wp2
          go_round
          case rel => exact ⟨k + 1, by omega, by omega, by go_num, by rw [← Hstep.out], Lib.hid (fun j hj => hD2.out j (by omega))⟩
          case measure => simp [intOf]; omega
    · have Hdk := Lib.hid (show dk (L s) = k from dk_eq (by rw [L_len]; omega) Hd.out (.inl (by rw [L_len]; omega)))
      have hx : True := trivial
      by_cases k0 : k = 0
      · have Hr := Lib.hid (dgR_no (dgB_nil (by rw [Hdk.out, k0])))
        subst k0
        go_wp2
        go_ret3
        exact Pu.zero (by rw [Hr.out]; rfl)
      · have e0 : ((k : Int) == 0) = false := by simp; omega
        have hs0 : 0 < s.size := by omega
        by_cases k1 : 1 < k ∧ bx (L s) 0 = 48
        · obtain ⟨k1, k2⟩ := k1
          have Hr := Lib.hid (dgR_no (dgB_lead (by rw [Hdk.out]; exact k1) k2))
          have e1 : decide ((1 : Int) < (k : Int)) = true := by simp; omega
          have e2 : (((s[0]'hs0).toNat : Int) == 48) = true := by rw [L_at s 0 hs0, k2]; rfl
          clear k0 k2
          go_wp2
          go_ret3
          exact Pu.zero (by rw [Hr.out]; rfl)
        · have Hr := Lib.hid (dgR_yes (dgB_yes (by rw [Hdk.out]; omega) (by rw [Hdk.out]; exact hk9) (by rw [Hdk.out]; exact k1)))
          have Hres := Lib.hid (show S ((L s).drop k) = s.extract k s.size from S_ext (by rw [L_S, L_extract, List.take_of_length_le (by simp [L_len])]))
          have e3 : decide ((1 : Int) < (k : Int)) = false ∨ (decide ((1 : Int) < (k : Int)) = true ∧ (((s[0]'hs0).toNat : Int) == 48) = false) := by
            by_cases hk1 : 1 < k
            · right
              refine ⟨by simp; omega, ?_⟩
              rw [L_at s 0 hs0]
              exact bytes_ne (d := 48) (fun e => k1 ⟨hk1, e⟩)
            · left; simp; omega
          clear k0 k1
          have hkI : (0 : Int) ≤ (k : Int) ∧ (k : Int) ≤ (s.size : Int) := by omega
          rcases e3 with e3 | ⟨e3, e4⟩
          all_goals
            go_wp2
            go_quiet (fail)
            go_wp2
            go_ret3
            exact ⟨by rw [Hr.out, Hdk.out, ← Hres.out]; first | rfl | simp, _, rfl⟩
def strSz : Value → Nat
  | .string r => r.size
  | _ => 0
theorem strSz_mk (r : ByteArray) : strSz (.string r) = r.size := rfl
def LiS (ss : List (List UInt8)) (w : World) (e : Ending) (w' : World) : Prop := ∃ v, e = .returned v ∧ OwS w' w.heap.size w'.heap.size v ss ∧ Below w.heap.size w w'
end WW
end Go.Proofs.YtdfhkkngbpidaaaDoor
