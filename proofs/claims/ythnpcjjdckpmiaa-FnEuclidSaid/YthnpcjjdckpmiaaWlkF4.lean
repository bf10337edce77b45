/-
  WALKS, DRAWS: negative fractions.
-/
import Derived.Test.YthnpcjjdckpmiaaWlkF3
namespace Go.Proofs.Ythnpcjjdckpmiaa
open Go.RowKit
set_option linter.unusedVariables false
namespace WF
open K Pl WA
set_option maxHeartbeats 1600000 in
theorem DrawNegativeFraction_any (B : Nat) (v : Value) (n : Nat) (w : World) (h : IsY w B v n) (hB : B ≤ w.heap.size) :
    Calls Try.prog 12 #[v] w fun e w' => ∃ a b : Int, e = .returned (.tuple #[.int .i64 a, .int .i64 b]) ∧ Below w.heap.size w w' := by
  go_enter Try.func12, Try.ntmps12
  go_wp2_with fail
  refine (l01From_any B v n _ h hB).mono ?_
  rintro e w1 ⟨rfl, hs1, hb1⟩
  have hsz := hb1.size
  have hs1b := hs1.here
  go_wp2_with fail
  refine (l01Two_any B v n _ (h.below (hb1.mono hB)) (by omega)).mono ?_
  rintro e w2 ⟨a, b, rfl, ha, hb, hb2⟩
  have hs2 := hs1.later hb2
  have hbw := hb1.trans (hb2.mono hsz)
  have hsz2 := hb2.size
  have hend : ∀ w', Dr B w.heap.size w2 w' → Below w.heap.size w w' := fun w' hd => hbw.trans (hd.2.below (by omega) (.inl (Nat.le_refl _)))
  clear hb1 hb2 hs1
  cases hA : isNat a
  · go_wp2_with fail
    refine (l01Natural_any _ _).mono ?_
    rintro e w3 ⟨rfl, rfl⟩
    rw [hA]
    go_wp2_with fail
    refine (l01Next_any B w.heap.size 30 _ hs2 (by omega)).mono ?_
    rintro e w4 ⟨r4, rfl, hr4, hd4⟩
    have hf := hend _ hd4
    clear hr4 hd4 hs2 hend
    by_cases h0 : r4 = 0
    · have hb0 : (r4 == 0) = true := by simp [h0]
      clear h0
      go_wp2
      go_ret2
      exact ⟨_, _, rfl, hf⟩
    · have hb0 : (r4 == 0) = false := by rw [beq_eq_false_iff_ne]; exact h0
      clear h0
      go_wp2
      go_ret2
      exact ⟨_, _, rfl, hf⟩
  · cases hBn : isNat b
    · go_wp2_with fail
      refine (l01Natural_any _ _).mono ?_
      rintro e w3 ⟨rfl, rfl⟩
      rw [hA]
      go_wp2_with fail
      refine (l01Natural_any _ _).mono ?_
      rintro e w3 ⟨rfl, rfl⟩
      rw [hBn]
      go_wp2_with fail
      refine (l01Next_any B w.heap.size 30 _ hs2 (by omega)).mono ?_
      rintro e w4 ⟨r4, rfl, hr4, hd4⟩
      have hf := hend _ hd4
      clear hr4 hd4 hs2 hend
      by_cases h0 : r4 = 0
      · have hb0 : (r4 == 0) = true := by simp [h0]
        clear h0
        go_wp2
        go_ret2
        exact ⟨_, _, rfl, hf⟩
      · have hb0 : (r4 == 0) = false := by rw [beq_eq_false_iff_ne]; exact h0
        clear h0
        go_wp2
        go_ret2
        exact ⟨_, _, rfl, hf⟩
    · have ha1 := isNat_bd hA
      have hb1 := isNat_bd hBn
      have hg1 := gcdI_pos a b (by omega)
      go_wp2_with fail
      refine (l01Natural_any _ _).mono ?_
      rintro e w3 ⟨rfl, rfl⟩
      rw [hA]
      go_wp2_with fail
      refine (l01Natural_any _ _).mono ?_
      rintro e w3 ⟨rfl, rfl⟩
      rw [hBn]
      go_wp2_with fail
      refine (l01Next_any B w.heap.size 8 _ hs2 (by omega)).mono ?_
      rintro e w4 ⟨r4, rfl, hr4, hs4, hc4⟩
      by_cases hp : 0 < r4
      · have hf4 := hend _ ⟨hs4, hc4⟩
        go_wp2_with fail
        refine (l01Gcd_any a b _ (by omega) (by omega) (by omega) (by omega)).mono ?_
        rintro e w5 ⟨rfl, rfl⟩
        generalize gcdI a b = g at hg1 ⊢
        have hg0 : ¬ g = 0 := by omega
        have qa : a.tdiv g = a / g := Int.tdiv_eq_ediv_of_nonneg (by omega)
        have qb : b.tdiv g = b / g := Int.tdiv_eq_ediv_of_nonneg (by omega)
        have qa0 : 0 ≤ a / g := Int.ediv_nonneg (by omega) (by omega)
        have qb0 : 0 ≤ b / g := Int.ediv_nonneg (by omega) (by omega)
        have qa1 : a / g ≤ a := Int.ediv_le_self _ (by omega)
        have qb1 : b / g ≤ b := Int.ediv_le_self _ (by omega)
        obtain ⟨a', Ha'⟩ : ∃ a', Hid (a / g = a') := ⟨_, Lib.hid rfl⟩
        obtain ⟨b', Hb'⟩ : ∃ b', Hid (b / g = b') := ⟨_, Lib.hid rfl⟩
        rw [Ha'.out] at qa qa0 qa1
        rw [Hb'.out] at qb qb0 qb1
        by_cases hlt : a' < b'
        · go_wp2
          go_ret2
          exact ⟨_, _, rfl, hf4⟩
        · go_wp2_with fail
          refine (l01Next_any B w.heap.size 30 _ hs4 (by omega)).mono ?_
          rintro e w6 ⟨r6, rfl, hr6, hs6, hc6⟩
          have hf := hend _ ⟨hs6, hc4.trans hc6⟩
          clear hr6 hs6 hc6 hend
          by_cases h0 : r6 = 0
          · have hb0 : (r6 == 0) = true := by simp [h0]
            clear h0
            go_wp2
            go_ret2
            exact ⟨_, _, rfl, hf⟩
          · have hb0 : (r6 == 0) = false := by rw [beq_eq_false_iff_ne]; exact h0
            clear h0
            go_wp2
            go_ret2
            exact ⟨_, _, rfl, hf⟩
      · go_wp2_with fail
        refine (l01Next_any B w.heap.size 30 _ hs4 (by omega)).mono ?_
        rintro e w6 ⟨r6, rfl, hr6, hs6, hc6⟩
        have hf := hend _ ⟨hs6, hc4.trans hc6⟩
        clear hr6 hs6 hc6 hend
        by_cases h0 : r6 = 0
        · have hb0 : (r6 == 0) = true := by simp [h0]
          clear h0
          go_wp2
          go_ret2
          exact ⟨_, _, rfl, hf⟩
        · have hb0 : (r6 == 0) = false := by rw [beq_eq_false_iff_ne]; exact h0
          clear h0
          go_wp2
          go_ret2
          exact ⟨_, _, rfl, hf⟩
end WF
end Go.Proofs.Ythnpcjjdckpmiaa
