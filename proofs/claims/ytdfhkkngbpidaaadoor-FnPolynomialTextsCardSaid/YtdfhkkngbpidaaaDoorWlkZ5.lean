/-
  WALKS, CHAPTER 2: a number inside a text, by the reference.
-/
import Derived.Test.YtdfhkkngbpidaaaDoorWlkZ2
import Derived.Test.YtdfhkkngbpidaaaDoorPlN
namespace Go.Proofs.YtdfhkkngbpidaaaDoor
open Go.RowKit
set_option linter.unusedVariables false
namespace WZ
open K Pl WA WW WX
theorem bx_drop (l : List UInt8) (a j : Nat) : bx (l.drop a) j = bx l (a + j) := by unfold bx; rw [List.getD_eq_getElem?_getD, List.getD_eq_getElem?_getD, List.getElem?_drop]
set_option maxHeartbeats 800000 in
theorem l02Number_any (s : ByteArray) (a : Nat) (w : World) (ha : a ≤ s.size) (hs : s.size ≤ 20000000000000) : Calls Tryd.prog 32 #[.string s, .int .i64 a] w
    fun e w' => e = .returned (.tuple #[.int .i64 (nS ((L s).drop a)), .int .i64 ((a + dk ((L s).drop a) : Nat) : Int)]) ∧ w = w' := by
  have Hlen := Lib.hid (L_len s)
  go_enter Tryd.func32, Tryd.ntmps32
  go_wp2_with fail
  go_loop [1] (fun i => ∃ k : Nat, a ≤ k ∧ k ≤ s.size ∧ i = .int .i64 k ∧ Hid (∀ j, a + j < k → isD (bx (L s) (a + j)) = true)) (fun i => s.size - (intOf i).toNat)
  case atStart => exact ⟨a, Nat.le_refl _, ha, rfl, Lib.hid (fun j hj => by omega)⟩
  case round =>
    obtain ⟨k, hak, hk, rfl, Hd⟩ := hrel
    have HEnd : (k = s.size ∨ isD (bx (L s) k) = false) → Hid (dk ((L s).drop a) = k - a) := fun h => Lib.hid (dk_eq (by rw [List.length_drop, Hlen.out]; omega) (fun j hj => by rw [bx_drop]; exact Hd.out j (by omega)) (by
      rw [List.length_drop, Hlen.out, bx_drop, show a + (k - a) = k by omega]
      rcases h with h | h
      · left; omega
      · exact .inr h))
    have Hex := Lib.hid (show L (s.extract a k) = ((L s).drop a).take (k - a) from L_extract s a k)
    have Hes : (s.extract a k).size ≤ 20000000000000 := by rw [← L_len, Hex.out, List.length_take, List.length_drop, Hlen.out]; omega
    by_cases hlt : k < s.size
    · cases hD : isD (bx (L s) k)
      · have He := HEnd (.inr hD)
        have hx : (decide ((48 : Int) ≤ ((s[k]'hlt).toNat : Int)) = true ∧ decide (((s[k]'hlt).toNat : Int) ≤ 57) = false) ∨ decide ((48 : Int) ≤ ((s[k]'hlt).toNat : Int)) = false := by
          rw [L_at s k hlt]
          have h2 : ¬ (48 ≤ (bx (L s) k).toNat ∧ (bx (L s) k).toNat ≤ 57) := fun h => by rw [isD_true.2 h] at hD; cases hD
          simp only [decide_eq_true_eq, decide_eq_false_iff_not]
          omega
        clear hD HEnd Hd
        rcases hx with ⟨h48, h57⟩ | h48
        all_goals
          go_wp2_with fail
          refine (l01Value_any _ _ Hes).mono ?_
          rintro e w' ⟨rfl, rfl⟩
          go_wp2_with fail
          go_ret2
          refine ⟨?_, rfl⟩
          rw [Hex.out, ← He.out]
          unfold nS
          rw [show a + dk ((L s).drop a) = k by rw [He.out]; omega]
          rfl
      · have hb := isD_true.1 hD
        have h48 : decide ((48 : Int) ≤ ((s[k]'hlt).toNat : Int)) = true := by rw [L_at s k hlt]; simp; omega
        have h57 : decide (((s[k]'hlt).toNat : Int) ≤ 57) = true := by rw [L_at s k hlt]; simp; omega
        have Hd2 := Lib.hid (show ∀ j, a + j < k + 1 → isD (bx (L s) (a + j)) = true from fun j hj => by
          by_cases e : a + j = k
          · rw [e]; exact hD
          · exact Hd.out j (by omega))
        clear hD hb HEnd Hd Hex Hes
        go_wp2_with fail
        go_round
        case rel => exact ⟨k + 1, by omega, by omega, by go_num, Hd2⟩
        case measure => first | (simp [intOf]; done) | (simp [intOf]; omega)
    · have hkn : k = s.size := by omega
      subst hkn
      have He := HEnd (.inl rfl)
      clear HEnd Hd
      go_wp2_with fail
      refine (l01Value_any _ _ Hes).mono ?_
      rintro e w' ⟨rfl, rfl⟩
      go_wp2_with fail
      go_ret2
      refine ⟨?_, rfl⟩
      rw [Hex.out, ← He.out]
      unfold nS
      rw [show a + dk ((L s).drop a) = s.size by rw [He.out]; omega]
      rfl
end WZ
end Go.Proofs.YtdfhkkngbpidaaaDoor
