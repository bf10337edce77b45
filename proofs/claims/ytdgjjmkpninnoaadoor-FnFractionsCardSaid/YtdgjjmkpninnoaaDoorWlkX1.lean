/-
  WALKS, CHAPTER 1: the text of a fraction.
-/
import Derived.Test.YtdgjjmkpninnoaaDoorKitD
import Derived.Test.YtdgjjmkpninnoaaDoorWlkW2
import Derived.Test.YtdgjjmkpninnoaaDoorWlkA5
import Derived.Deep.RegionHeld3
namespace Go.Proofs.YtdgjjmkpninnoaaDoor
open Go.RowKit
set_option linter.unusedVariables false
namespace WX
open K Pl WA WW
theorem S_size_sgn (z : Int) (h0 : -1000000000000000 ≤ z) (h1 : z ≤ 1000000000000000) : (S (sgnI z)).size ≤ 17 := by
  rw [S_size]; exact sgnI_size z h0 h1
theorem S_size_dec (z : Int) (h0 : 0 ≤ z) (h1 : z ≤ 1000000000000000) : (S (decI z)).size ≤ 17 := by
  rw [← sgnI_pos (show ¬ z < 0 by omega)]; exact S_size_sgn z (by omega) h1
/-- A fraction's text and a code. -/
def St (r : List UInt8 × Int) (w : World) (e : Ending) (w' : World) : Prop := e = .returned (.tuple #[.string (S r.1), .int .i64 r.2]) ∧ Below w.heap.size w w'
theorem l01Dec_int (z : Int) (h0 : 0 ≤ z) (h1 : z ≤ 1000000000000000) (w : World) : Calls Tryd.prog 54 #[.int .i64 z] w fun e w' => e = .returned (.string (S (decI z))) ∧ Below w.heap.size w w' := by
  obtain ⟨n, rfl⟩ := Int.eq_ofNat_of_zero_le h0
  rw [decI_nat]
  exact l01Dec_any n w (by omega)
theorem l01Signed_any (z : Int) (h0 : -1000000000000000 ≤ z) (h1 : z ≤ 1000000000000000) (w : World) : Calls Tryd.prog 53 #[.int .i64 z] w fun e w' => e = .returned (.string (S (sgnI z))) ∧ Below w.heap.size w w' := by
  by_cases hz : z < 0
  · have Hr := Lib.hid (sgnI_neg hz)
    have hs := S_size_dec (-z) (by omega) (by omega)
    have hz2 : 0 ≤ -z ∧ -z ≤ 1000000000000000 := by omega
    go_enter Tryd.func53, Tryd.ntmps53
    go_wp2_with fail
    refine (l01Dec_int (-z) hz2.1 hz2.2 _).mono ?_
    rintro e w' ⟨rfl, hb⟩
    go_wp2_with fail
    go_ret
    exact ⟨ret_s (by rw [Hr.out]; exact S_append [45] _), hb⟩
  · have Hr := Lib.hid (sgnI_pos hz)
    have hz0 : 0 ≤ z := by omega
    go_enter Tryd.func53, Tryd.ntmps53
    go_wp2_with fail
    refine (l01Dec_int z hz0 h1 _).mono ?_
    rintro e w' ⟨rfl, hb⟩
    go_wp2_with fail
    go_ret
    exact ⟨ret_s (by rw [Hr.out]), hb⟩
set_option maxHeartbeats 800000 in
theorem l01Text_any (a b : Int) (w : World) (ha : -1000000000000000 ≤ a ∧ a ≤ 1000000000000000) (hb : 0 ≤ b ∧ b ≤ 1000000000000000) : Calls Tryd.prog 42 #[.agg #[.int .i64 a, .int .i64 b]] w fun e w' => e = .returned (.string (S (txF a b))) ∧ Below w.heap.size w w' := by
  have hsa := S_size_sgn a ha.1 ha.2
  have hsb := S_size_dec b hb.1 hb.2
  have hc0 : ∀ t, (w.alloc (.cells #[.int .i64 a, .int .i64 b] t)).cell? ⟨w.heap.size, 1, none⟩ = some (.int .i64 b) := fun t => by simp [go_sem]
  by_cases h1 : b = 1
  · have Hr := Lib.hid (show txF a b = sgnI a by unfold txF; rw [if_pos h1]; simp)
    have e1 : (b != 1) = false := by simp [h1]
    clear h1
    go_enter Tryd.func42, Tryd.ntmps42
    go_wp2_with fail
    refine (l01Signed_any a ha.1 ha.2 _).mono ?_
    rintro e w1 ⟨rfl, hb1⟩
    have hc1 := (hb1.cell (p := ⟨w.heap.size, 1, none⟩) (by simp)).trans (hc0 _)
    have hbw : Below w.heap.size w w1 := ((Below.refl _ _).alloc (Nat.le_refl _) _).trans (hb1.mono (by simp))
    clear hb1 hc0
    go_wp2_with fail
    go_ret
    exact ⟨ret_s (by rw [Hr.out]), hbw⟩
  · have Hr := Lib.hid (show S (txF a b) = (S (sgnI a) ++ ({ data := #[47] } : ByteArray)) ++ S (decI b) by
      have e : ({ data := #[47] } : ByteArray) = S [47] := rfl
      unfold txF; rw [if_neg h1, e, S_append, S_append]; simp)
    have e1 : (b != 1) = true := by simp [h1]
    clear h1
    go_enter Tryd.func42, Tryd.ntmps42
    go_wp2_with fail
    refine (l01Signed_any a ha.1 ha.2 _).mono ?_
    rintro e w1 ⟨rfl, hb1⟩
    have hc1 := (hb1.cell (p := ⟨w.heap.size, 1, none⟩) (by simp)).trans (hc0 _)
    have hbw : Below w.heap.size w w1 := ((Below.refl _ _).alloc (Nat.le_refl _) _).trans (hb1.mono (by simp))
    have hsz := hbw.size
    clear hb1 hc0
    go_wp2_with fail
    refine (l01Dec_int b hb.1 hb.2 _).mono ?_
    rintro e w2 ⟨rfl, hb2⟩
    have hbw2 := hbw.trans (hb2.mono hsz)
    clear hb2
    go_wp2_with fail
    go_ret
    exact ⟨ret_s (by rw [Hr.out]), hbw2⟩
theorem s4_on {W0 W w1 : World} {b : Nat} {x y : Value} {B : Nat} (h : W.cell? ⟨b, 0, none⟩ = some x ∧ W.cell? ⟨b, 1, none⟩ = some y ∧ Tab W ∧ Below B W0 W) (hb : Below W.heap.size W w1) (hB : B ≤ W0.heap.size) :
    w1.cell? ⟨b, 0, none⟩ = some x ∧ w1.cell? ⟨b, 1, none⟩ = some y ∧ Tab w1 ∧ Below B W0 w1 :=
  ⟨(hb.cell (World.block_lt_of_cell? W ⟨b, 0, none⟩ h.1)).trans h.1, (hb.cell (p := ⟨b, 1, none⟩) (World.block_lt_of_cell? W ⟨b, 1, none⟩ h.2.1)).trans h.2.1, h.2.2.1.later hb, h.2.2.2.trans (hb.mono (Nat.le_trans hB h.2.2.2.size))⟩
set_option maxHeartbeats 800000 in
theorem fractionText_any (a b : Int) (w : World) (ht : Tab w) (ha : -1000000000000000 ≤ a ∧ a ≤ 1000000000000000) (hb : 0 ≤ b ∧ b ≤ 1000000000000000) : Calls Tryd.prog 34 #[.agg #[.int .i64 a, .int .i64 b]] w fun e w' => e = .returned (.string (S (txF a b))) ∧ Below w.heap.size w w' := by
  have hsa := S_size_sgn a ha.1 ha.2
  have hsb := S_size_sgn b (by omega) hb.2
  have hT := fun o => ht.al o
  by_cases h1 : b = 1
  · have Hr := Lib.hid (show txF a b = sgnI a by unfold txF; rw [if_pos h1]; simp)
    have e1 : (b == 1) = true := by simp [h1]
    clear h1
    go_enter Tryd.func34, Tryd.ntmps34
    go_wp2_with fail
    refine (decimal_any a (by omega) (by omega) _ (hT _)).mono ?_
    rintro e w1 ⟨rfl, hb1⟩
    have hbw : Below w.heap.size w w1 := ((Below.refl _ _).alloc (Nat.le_refl _) _).trans (hb1.mono (by simp))
    clear hb1
    go_wp2_with fail
    go_ret
    exact ⟨ret_s (by rw [Hr.out]), hbw⟩
  · have Hr := Lib.hid (show S (txF a b) = (S (sgnI a) ++ ({ data := #[47] } : ByteArray)) ++ S (sgnI b) by
      have e : ({ data := #[47] } : ByteArray) = S [47] := rfl
      unfold txF; rw [if_neg h1, e, S_append, S_append, sgnI_pos (show ¬ b < 0 by omega)]; simp)
    have e1 : (b == 1) = false := by simp [h1]
    have hz1 : ¬ 9223372036854775807 < (S (sgnI a)).size + 1 := by omega
    have hz2 : ¬ 9223372036854775807 < (S (sgnI a)).size + 1 + (S (sgnI b)).size := by omega
    clear h1
    go_enter Tryd.func34, Tryd.ntmps34
    go_wp2_with fail
    obtain ⟨W0, hW0⟩ : ∃ W0, W0 = w.alloc (.cells #[.int .i64 a, .int .i64 b] 25) := ⟨_, rfl⟩
    have S0 : W0.drew.cell? ⟨w.heap.size, 0, none⟩ = some (.int .i64 a) ∧ W0.drew.cell? ⟨w.heap.size, 1, none⟩ = some (.int .i64 b) ∧ Tab W0.drew ∧ Below w.heap.size w W0.drew := by
      rw [hW0]
      exact ⟨by simp [go_sem], by simp [go_sem], (hT _).dr 1, below_drewN ((Below.refl _ _).alloc (Nat.le_refl _) _) 1⟩
    rw [← hW0]
    have T0 := S0.2.2.1
    clear hW0 hT
    go_region_held3 (fun W => W.cell? ⟨w.heap.size, 0, none⟩ = some (.int .i64 a) ∧ W.cell? ⟨w.heap.size, 1, none⟩ = some (.int .i64 b) ∧ Tab W ∧ Below w.heap.size w W) (first | assumption)
      (first | (go_at_call 50; refine (decimal_any _ (by omega) (by omega) _ (by assumption)).mono ?_; rintro e w1 ⟨rfl, hb1⟩; have z1 := s4_on (by assumption) hb1 (Nat.le_refl _); have t1 := z1.2.2.1))
    all_goals
      have z2 := z1.2.2.2
      clear z1 t1 hb1 S0 T0
      go_wp2_with fail
      go_ret
      exact ⟨ret_s (by rw [Hr.out]), z2⟩
theorem isFr_bds {a b : Int} (h : isFr a b = true) : (-1000000000000000 ≤ a ∧ a ≤ 1000000000000000) ∧ (0 ≤ b ∧ b ≤ 1000000000000000) := by
  have := isFr_bd h; omega
theorem FractionText_any (a b : Int) (w : World) (ht : Tab w) : Calls Tryd.prog 14 #[.agg #[.int .i64 a, .int .i64 b]] w (St (ftF a b) w) := by
  have hc0 : ∀ t, (w.alloc (.cells #[.int .i64 a, .int .i64 b] t)).cell? ⟨w.heap.size, 0, none⟩ = some (.int .i64 a) := fun t => by simp [go_sem]
  have hc1 : ∀ t, (w.alloc (.cells #[.int .i64 a, .int .i64 b] t)).cell? ⟨w.heap.size, 1, none⟩ = some (.int .i64 b) := fun t => by simp [go_sem]
  cases hF : isFr a b
  · have Hr := Lib.hid (show ftF a b = ([], 1) by unfold ftF; rw [hF]; rfl)
    go_enter Tryd.func14, Tryd.ntmps14
    go_wp2_with fail
    refine (isFraction_any a b _).mono ?_
    rintro e w1 ⟨rfl, hb1⟩
    rw [hF]
    have hbw : Below w.heap.size w w1 := ((Below.refl _ _).alloc (Nat.le_refl _) _).trans (hb1.mono (by simp))
    clear hb1 hc0 hc1
    go_wp2_with fail
    go_ret2
    exact ⟨by rw [Hr.out]; rfl, hbw⟩
  · have Hr := Lib.hid (show ftF a b = (txF a b, 0) by unfold ftF; rw [hF]; rfl)
    obtain ⟨ba, bb⟩ := isFr_bds hF
    go_enter Tryd.func14, Tryd.ntmps14
    go_wp2_with fail
    refine (isFraction_any a b _).mono ?_
    rintro e w1 ⟨rfl, hb1⟩
    rw [hF]
    have hbw : Below w.heap.size w w1 := ((Below.refl _ _).alloc (Nat.le_refl _) _).trans (hb1.mono (by simp))
    have k0 := (hb1.cell (p := ⟨w.heap.size, 0, none⟩) (by simp)).trans (hc0 _)
    have k1 := (hb1.cell (p := ⟨w.heap.size, 1, none⟩) (by simp)).trans (hc1 _)
    have hsz := hbw.size
    have ht1 := (ht.al _).later hb1
    clear hb1 hc0 hc1
    go_wp2_with fail
    refine (fractionText_any a b _ ht1 ba bb).mono ?_
    rintro e w2 ⟨rfl, hb2⟩
    have hbw2 := hbw.trans (hb2.mono hsz)
    clear hb2
    go_wp2_with fail
    go_ret2
    exact ⟨by rw [Hr.out]; rfl, hbw2⟩
end WX
end Go.Proofs.YtdgjjmkpninnoaaDoor
