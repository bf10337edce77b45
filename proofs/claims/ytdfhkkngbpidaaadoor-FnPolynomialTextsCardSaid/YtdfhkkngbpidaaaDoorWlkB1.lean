/-
  WALKS, CHAPTER 2: is it a polynomial; its value at a place.
-/
import Derived.Test.YtdfhkkngbpidaaaDoorKit
import Derived.Test.YtdfhkkngbpidaaaDoorPlB
import Derived.Test.YtdfhkkngbpidaaaDoorWlkA1
namespace Go.Proofs.YtdfhkkngbpidaaaDoor
open Go.RowKit
set_option linter.unusedVariables false
namespace WB
open K Pl WA

theorem isCoefficient_any (n : Int) (w : World) : Calls Tryd.prog 38 #[.int .i64 n] w fun e w' => e = .returned (.bool (isCoef n)) ∧ w = w' := by
  go_enter Tryd.func38, Tryd.ntmps38
  go_wp2_with (go_at_call 36; refine (inRange_any _ _ _ _).mono ?_; rintro e w' ⟨rfl, rfl⟩)
  go_ret
  exact ⟨rfl, rfl⟩
set_option maxHeartbeats 800000 in
theorem IsPolynomial_any (B : Nat) (v : Value) (xs : List Int) (w : World) (h : Is w B v xs) (hB : B ≤ w.heap.size) : Calls Tryd.prog 22 #[v] w fun e w' => e = .returned (.bool (isPoly xs)) ∧ w = w' := by
  obtain ⟨A, n, c, rfl, hnc, hcm, hrd⟩ := h
  have Hlen := Lib.hid hrd.len
  unfold maxLen at hcm
  by_cases hl : 2001 < n
  · have Hr := Lib.hid (isPoly_long (p := xs) (by rw [Hlen.out]; exact hl))
    go_enter Tryd.func22, Tryd.ntmps22
    go_wp2
    go_ret
    exact ⟨ret_b Hr.out.symm, rfl⟩
  · by_cases h0 : 0 < n
    · obtain ⟨ad, rfl, hab, hc⟩ := hrd.pos h0
      have hcl := hc (n - 1) (by omega)
      have hi1 : 0 ≤ (n : Int) - 1 ∧ (n : Int) - 1 < (n : Int) := by omega
      by_cases hz : gx xs (n - 1) = 0
      · have Hr := Lib.hid (isPoly_last (p := xs) (by rw [Hlen.out]; exact h0) (by rw [Hlen.out]; exact hz))
        have he : (gx xs (n - 1) == 0) = true := by simp [hz]
        have Hc := Lib.hid hc; clear hz hc
        go_enter Tryd.func22, Tryd.ntmps22
        go_wp2
        go_ret
        exact ⟨ret_b Hr.out.symm, rfl⟩
      · have he : (gx xs (n - 1) == 0) = false := by simp [hz]
        have Hz := Lib.hid hz
        have Hc := Lib.hid hc; clear hz hc
        go_enter Tryd.func22, Tryd.ntmps22
        go_wp2
        go_loop [24] (fun i => ∃ k : Nat, k ≤ n ∧ i = .int .i64 k ∧ Hid (∀ j, j < k → isCoef (gx xs j) = true)) (fun i => n - (intOf i).toNat)
        case atStart => exact ⟨0, Nat.zero_le _, rfl, Lib.hid (fun j hj => by omega)⟩
        case round =>
          clear hcl hi1 he
          obtain ⟨k, hk, rfl, hall⟩ := hrel
          by_cases hlt : k < n
          · have hc1 := Hc.out k hlt
            cases hR : isCoef (gx xs k)
            · have Hr := Lib.hid (isPoly_coef (p := xs) k (by rw [Hlen.out]; exact hlt) hR)
              go_wp2_with (go_at_call 38; refine (isCoefficient_any _ _).mono ?_; rintro e w' ⟨rfl, rfl⟩)
              go_ret
              exact ⟨ret_b Hr.out.symm, rfl⟩
            · have Hall := Lib.hid (show ∀ j, j < k + 1 → isCoef (gx xs j) = true from fun j hj => by
                by_cases e : j = k
                · rw [e]; exact hR
                · exact hall.out j (by omega))
              go_wp2_with (go_at_call 38; refine (isCoefficient_any _ _).mono ?_; rintro e w' ⟨rfl, rfl⟩)
              go_round
              case rel => exact ⟨k + 1, by omega, by go_num, Hall⟩
              case measure => first | (simp [intOf]; done) | (simp [intOf]; omega)
          · have Hr := Lib.hid (isPoly_yes (p := xs) (by rw [Hlen.out]; omega) (by rw [Hlen.out]; exact .inr Hz.out) (by rw [Hlen.out]; exact fun j hj => hall.out j (by omega)))
            go_wp2
            go_ret
            exact ⟨ret_b Hr.out.symm, rfl⟩
    · have Hr := Lib.hid (isPoly_yes (p := xs) (by rw [Hlen.out]; omega) (by rw [Hlen.out]; exact .inl (by omega)) (by rw [Hlen.out]; exact fun j hj => by omega))
      go_enter Tryd.func22, Tryd.ntmps22
      go_wp2
      refine wp_loop_rounds 1 ?_
      rw [rounds_succ]
      go_wp2
      go_ret
      exact ⟨ret_b Hr.out.symm, rfl⟩
set_option maxHeartbeats 800000 in
theorem l02Is_any (B : Nat) (v : Value) (xs : List Int) (w : World) (h : Is w B v xs) (hB : B ≤ w.heap.size) : Calls Tryd.prog 24 #[v] w fun e w' => e = .returned (.bool (isPoly xs)) ∧ w = w' := by
  obtain ⟨A, n, c, rfl, hnc, hcm, hrd⟩ := h
  have Hlen := Lib.hid hrd.len
  unfold maxLen at hcm
  go_enter Tryd.func24, Tryd.ntmps24
  go_wp2
  go_loop [3] (fun i => ∃ k : Nat, k ≤ n ∧ i = .int .i64 k ∧ Hid (∀ j, j < k → isCoef (gx xs j) = true)) (fun i => n - (intOf i).toNat)
  case atStart => exact ⟨0, Nat.zero_le _, rfl, Lib.hid (fun j hj => by omega)⟩
  case round =>
    obtain ⟨k, hk, rfl, hall⟩ := hrel
    by_cases hlt : k < n
    · obtain ⟨ad, rfl, hab, hc⟩ := hrd.pos (by omega)
      have hc1 := hc k hlt
      clear hc
      cases hR : isCoef (gx xs k)
      · have Hr := Lib.hid (isPoly_coef (p := xs) k (by rw [Hlen.out]; exact hlt) hR)
        have hR' : inR (gx xs k) (-1000000000000) 1000000000000 = false := hR
        clear hR
        go_wp2_with (go_at_call 33; refine (l01In_any _ _ _ _).mono ?_; rintro e w' ⟨rfl, rfl⟩)
        go_ret
        exact ⟨ret_b Hr.out.symm, rfl⟩
      · have Hall := Lib.hid (show ∀ j, j < k + 1 → isCoef (gx xs j) = true from fun j hj => by
          by_cases e : j = k
          · rw [e]; exact hR
          · exact hall.out j (by omega))
        have hR' : inR (gx xs k) (-1000000000000) 1000000000000 = true := hR
        clear hR
        go_wp2_with (go_at_call 33; refine (l01In_any _ _ _ _).mono ?_; rintro e w' ⟨rfl, rfl⟩)
        go_round
        case rel => exact ⟨k + 1, by omega, by go_num, Hall⟩
        case measure => first | (simp [intOf]; done) | (simp [intOf]; omega)
    · have hkn : k = n := by omega
      subst hkn
      by_cases hl : 2001 < k
      · have Hr := Lib.hid (isPoly_long (p := xs) (by rw [Hlen.out]; exact hl))
        go_wp2
        go_ret
        exact ⟨ret_b Hr.out.symm, rfl⟩
      · by_cases h0 : 0 < k
        · obtain ⟨ad, rfl, hab, hc⟩ := hrd.pos h0
          have hcl := hc (k - 1) (by omega)
          have hi1 : 0 ≤ (k : Int) - 1 ∧ (k : Int) - 1 < (k : Int) := by omega
          have hk0 : ((k : Int) == 0) = false := by simp; omega
          by_cases hz : gx xs (k - 1) = 0
          · have Hr := Lib.hid (isPoly_last (p := xs) (by rw [Hlen.out]; exact h0) (by rw [Hlen.out]; exact hz))
            have he : (gx xs (k - 1) != 0) = false := by simp [hz]
            clear hz hc
            go_wp2
            go_ret
            exact ⟨ret_b Hr.out.symm, rfl⟩
          · have he : (gx xs (k - 1) != 0) = true := by simp [hz]
            have Hr := Lib.hid (isPoly_yes (p := xs) (by rw [Hlen.out]; omega) (by rw [Hlen.out]; exact .inr hz) (by rw [Hlen.out]; exact hall.out))
            clear hz hc
            go_wp2
            go_ret
            exact ⟨ret_b Hr.out.symm, rfl⟩
        · have hk0 : ((k : Int) == 0) = true := by simp; omega
          have Hr := Lib.hid (isPoly_yes (p := xs) (by rw [Hlen.out]; omega) (by rw [Hlen.out]; exact .inl (by omega)) (by rw [Hlen.out]; exact fun j hj => by omega))
          go_wp2
          go_ret
          exact ⟨ret_b Hr.out.symm, rfl⟩
set_option maxHeartbeats 800000 in
theorem EvaluatePolynomial_any (B : Nat) (v : Value) (xs : List Int) (x : Int) (w : World) (h : Is w B v xs) (hB : B ≤ w.heap.size) : Calls Tryd.prog 15 #[v, .int .i64 x] w fun e w' => e = .returned (.tuple #[.int .i64 (evP xs x).1, .int .i64 (evP xs x).2]) ∧ Below w.heap.size w w' := by
  cases hP : isPoly xs
  · have Hr := Lib.hid (show evP xs x = (0, 1) by unfold evP; rw [hP]; rfl)
    go_enter Tryd.func15, Tryd.ntmps15
    go_wp2_with fail
    refine (IsPolynomial_any B v xs _ h hB).mono ?_
    rintro e w' ⟨rfl, rfl⟩
    rw [hP]
    go_wp2_with fail
    go_ret2
    exact ⟨by rw [Hr.out]; rfl, Below.refl _ _⟩
  · cases hX : inR x (-1000) 1000
    · have Hr := Lib.hid (show evP xs x = (0, 2) by unfold evP; rw [hP, hX]; rfl)
      go_enter Tryd.func15, Tryd.ntmps15
      go_wp2_with fail
      refine (IsPolynomial_any B v xs _ h hB).mono ?_
      rintro e w' ⟨rfl, rfl⟩
      rw [hP]
      go_wp2_with (go_at_call 36; refine (inRange_any _ _ _ _).mono ?_; rintro e w' ⟨rfl, rfl⟩)
      go_ret2
      exact ⟨by rw [Hr.out]; rfl, Below.refl _ _⟩
    · have bx := inR_true.1 hX
      have Hr := Lib.hid (evP_run hP hX)
      have Hbd := Lib.hid (isPoly_gx hP)
      have Hp := Lib.hid h
      obtain ⟨A, n, c, rfl, hnc, hcm, hrd⟩ := h
      have Hlen := Lib.hid hrd.len
      unfold maxLen at hcm
      go_enter Tryd.func15, Tryd.ntmps15
      go_wp2_with fail
      refine (IsPolynomial_any B _ xs _ Hp.out hB).mono ?_
      rintro e w' ⟨rfl, rfl⟩
      rw [hP]
      have HP := Lib.hid hP; clear hP
      go_wp2_with (go_at_call 36; refine (inRange_any _ _ _ _).mono ?_; rintro e w' ⟨rfl, rfl⟩)
      clear hX
      go_loop [6, 7] (fun s i => ∃ (k : Nat) (y z : Int), k ≤ n ∧ s = .int .i64 y ∧ i = .int .i64 z ∧ Hid (z + 1 = k) ∧ -1000000000000 ≤ y ∧ y ≤ 1000000000000 ∧ Hid (evP xs x = out2 (evGo x (xs.take k).reverse y))) (fun _ i => (intOf i + 1).toNat)
      case atStart =>
        refine ⟨n, 0, _, Nat.le_refl _, rfl, rfl, Lib.hid (by omega), by omega, by omega, Lib.hid ?_⟩
        rw [Hr.out, List.take_of_length_le (by rw [Hlen.out]; exact Nat.le_refl _)]
      case round =>
        obtain ⟨k, y, z, hk, rfl, rfl, hz, hy1, hy2, hgo⟩ := hrel
        by_cases hk0 : 0 < k
        · obtain ⟨j, rfl⟩ : ∃ j, k = j + 1 := ⟨k - 1, by omega⟩
          obtain rfl : z = (j : Int) := by have := hz.out; omega
          obtain ⟨ad, rfl, hab, hc⟩ := hrd.pos (by omega)
          have hc1 := hc j (by omega)
          have hi1 : 0 ≤ (j : Int) ∧ (j : Int) < (n : Int) := by omega
          have hb1 := mul_bd3 y x hy1 hy2 bx.1 bx.2
          have hb2 := Hbd.out j
          have Hstep := Lib.hid (evGo_step x xs j (by rw [Hlen.out]; omega) y)
          clear hc
          cases hR : isCoef (y * x + gx xs j)
          · have Hres := Lib.hid (show evP xs x = (0, 3) by rw [hgo.out, Hstep.out, hR]; rfl)
            have hR' := hR
            go_wp2_with (go_at_call 38; refine (isCoefficient_any _ _).mono ?_; rintro e w' ⟨rfl, rfl⟩)
            go_ret2
            exact ⟨by rw [Hres.out]; rfl, Below.refl _ _⟩
          · have Hres := Lib.hid (show evP xs x = out2 (evGo x (xs.take j).reverse (y * x + gx xs j)) by rw [hgo.out, Hstep.out, hR]; rfl)
            have bR := isCoef_true.1 hR
            have hR' := hR
            go_wp2_with (go_at_call 38; refine (isCoefficient_any _ _).mono ?_; rintro e w' ⟨rfl, rfl⟩)
            go_round
            case rel => exact ⟨j, _, _, by omega, rfl, rfl, Lib.hid (by omega), bR.1, bR.2, Hres⟩
            case measure => first | (simp [intOf]; done) | (simp [intOf]; omega)
        · obtain rfl : k = 0 := by omega
          obtain rfl : z = -1 := by have := hz.out; omega
          have Hres := Lib.hid (show evP xs x = (y, 0) by rw [hgo.out]; rfl)
          go_wp2
          go_ret2
          exact ⟨by rw [Hres.out]; rfl, Below.refl _ _⟩
theorem below_of {P : Program} {f : FuncId} {args : Array Value} {w : World} {v : Value} (h : Calls P f args w fun e w' => e = .returned v ∧ w = w') : Calls P f args w fun e w' => e = .returned v ∧ Below w.heap.size w w' :=
  h.mono fun _ _ ⟨he, hw⟩ => ⟨he, by subst hw; exact Below.refl _ _⟩
end WB
end Go.Proofs.YtdfhkkngbpidaaaDoor
