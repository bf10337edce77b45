/-
  WALKS, CHAPTER 3: turned characteristics (the test by the program).
-/
import Derived.Test.YtpclplagkjimmaaWlkC8
namespace Go.Proofs.Ytpclplagkjimmaa
open Go.RowKit
set_option linter.unusedVariables false
namespace WC
open K Pl WA
theorem inRange_b {b : Bool} (n l m : Int) (w : World) (h : inR n l m = b) : Calls Try.prog 52 #[.int .i64 n, .int .i64 l, .int .i64 m] w fun e w' => e = .returned (.bool b) ∧ w' = w :=
  (inRange_any n l m w).mono fun e w' h' => ⟨by rw [h'.1, h], h'.2.symm⟩
/-- The list without its head. -/
theorem is_tail {w : World} {B n c : Nat} {ad : Addr} {xs : List Int} (h : Is w B (.slice (some ad) n c) xs) (h1 : 1 ≤ n) (hc : n ≤ c) (hm : c ≤ maxLen) : Is w B (.slice (some ⟨ad.block, ad.off + 1, none⟩) (n - 1) (c - 1)) (xs.drop 1) := by
  have he : ad.add 1 = ⟨ad.block, ad.off + 1, none⟩ := by simp [Addr.add]
  rw [← he]
  obtain ⟨A, n', c', e, _, _, hrd⟩ := h
  cases e
  have hl := hrd.len
  obtain ⟨ad', e, hab, hcs⟩ := hrd.pos (by omega)
  cases e
  refine ⟨_, _, _, rfl, by omega, by omega, ⟨by simp; omega, fun _ => ⟨_, rfl, by rw [block_of_add]; exact hab, fun j hj => ?_⟩⟩⟩
  have := hcs (1 + j) (by omega)
  rw [gx_drop, ← this]
  by_cases hj0 : j = 0
  · subst hj0; simp [Addr.add]
  · simp [Addr.add, hj0, Nat.add_assoc]
theorem tu_no1 {xs : List Int} (h2 : 2 ≤ xs.length) (hX : inR (gx xs 0) 2 64 = true) (hY : inR (gx xs 1) 1 64 = false) : isTu xs = false := by
  cases h : isTu xs
  · rfl
  · obtain ⟨_, a, b, _⟩ := isTu_true.1 h
    have : inR (gx xs 1) 1 64 = true := inR_true.2 ⟨b.1, by omega⟩
    rw [hY] at this; cases this
theorem tu_no2 {xs : List Int} (hle : gx xs 0 ≤ gx xs 1) : isTu xs = false := by
  cases h : isTu xs
  · rfl
  · obtain ⟨_, a, b, _⟩ := isTu_true.1 h
    omega
set_option maxHeartbeats 1600000 in
theorem isTurned_any (B : Nat) (v : Value) (xs : List Int) (w : World) (h : Is w B v xs) (hB : B ≤ w.heap.size) : Calls Try.prog 62 #[v] w fun e w' => e = .returned (.bool (isTu xs)) ∧ Below w.heap.size w w' := by
  have Hh := Lib.hid h
  obtain ⟨A, n, c, rfl, hnc, hcm, hrd⟩ := h
  have Hlen := Lib.hid hrd.len
  have Hcm := Lib.hid hcm
  unfold maxLen at hcm
  by_cases hn : (n : Int) < 2
  · have Hres := Lib.hid (show isTu xs = false by unfold isTu; rw [decide_eq_false (by rw [Hlen.out]; omega)]; rfl)
    go_enter Try.func62, Try.ntmps62
    go_wp2_with fail
    go_quiet (fail)
    go_wp2
    go_ret
    exact ⟨ret_b Hres.out.symm, below_drewN (Below.refl _ _) _⟩
  · have H2 := Lib.hid (show 2 ≤ xs.length by rw [Hlen.out]; omega)
    obtain ⟨ad, rfl, hab, hc⟩ := hrd.pos (by omega)
    have hc0 : w.cell? ad = some (.int .i64 (gx xs 0)) := by have := hc 0 (by omega); simpa [Addr.add] using this
    have hc1 : w.cell? (ad.add 1) = some (.int .i64 (gx xs 1)) := hc 1 (by omega)
    have hc1' : w.cell? ⟨ad.block, ad.off + 1, none⟩ = some (.int .i64 (gx xs 1)) := by simpa [Addr.add] using hc1
    have hi0 : (0 : Int) < (n : Int) := by omega
    have hi1 : (1 : Int) < (n : Int) := by omega
    have hN0 : 0 < n := by omega
    have hN1 : 1 < n := by omega
    have hN2 : decide ((n : Int) < 2) = false := by simp; omega
    have Ht := Lib.hid (is_tail Hh.out (by omega) hnc Hcm.out)
    clear hc hrd
    cases hX : inR (gx xs 0) 2 64
    · have Hres := Lib.hid (show isTu xs = false by unfold isTu; rw [hX]; simp)
      have HX := Lib.hid hX
      clear hX
      go_enter Try.func62, Try.ntmps62
      go_wp2_with fail
      go_quiet ((go_at_call 52; exact Calls.quiet_of_same (inRange_b _ _ _ _ HX.out)))
      go_wp2
      go_ret
      exact ⟨ret_b Hres.out.symm, below_drewN (Below.refl _ _) _⟩
    · cases hY : inR (gx xs 1) 1 64
      · have Hres := Lib.hid (tu_no1 H2.out hX hY)
        have HX := Lib.hid hX
        have HY := Lib.hid hY
        clear hX hY
        go_enter Try.func62, Try.ntmps62
        go_wp2_with fail
        go_quiet ((go_at_call 52; first | exact Calls.quiet_of_same (inRange_b _ _ _ _ HX.out) | exact Calls.quiet_of_same (inRange_b _ _ _ _ HY.out)))
        go_wp2
        go_ret
        exact ⟨ret_b Hres.out.symm, below_drewN (Below.refl _ _) _⟩
      · have HX := Lib.hid hX
        have HY := Lib.hid hY
        by_cases hlt : gx xs 0 ≤ gx xs 1
        · have Hres := Lib.hid (tu_no2 hlt)
          clear hX hY
          go_enter Try.func62, Try.ntmps62
          go_wp2_with fail
          go_quiet ((go_at_call 52; first | exact Calls.quiet_of_same (inRange_b _ _ _ _ HX.out) | exact Calls.quiet_of_same (inRange_b _ _ _ _ HY.out)))
          go_wp2
          go_ret
          exact ⟨ret_b Hres.out.symm, below_drewN (Below.refl _ _) _⟩
        · have Hi := Lib.hid (isTu_impl H2.out hX hY (by omega))
          have hx := inR_true.1 hX
          clear hX hY
          cases hA : ascB (xs.drop 1)
          · have Hres := Lib.hid (show isTu xs = false by rw [Hi.out, hA]; rfl)
            go_enter Try.func62, Try.ntmps62
            go_wp2_with fail
            go_quiet ((go_at_call 52; first | exact Calls.quiet_of_same (inRange_b _ _ _ _ HX.out) | exact Calls.quiet_of_same (inRange_b _ _ _ _ HY.out)))
            have hwd := below_drewN (Below.refl w.heap.size w) nq
            go_wp2_with fail
            refine (ascends_any B _ (xs.drop 1) _ (Ht.out.below (hwd.mono hB)) hB).mono ?_
            rintro e w1 ⟨rfl, hb1⟩
            rw [hA]
            have hw1 : Below w.heap.size w w1 := hwd.trans hb1
            have hs1 := hw1.size
            clear hb1
            go_wp2_with fail
            go_ret
            exact ⟨ret_b Hres.out.symm, hw1⟩
          · cases hW : wiB (xs.drop 1) 1 2000
            · have Hres := Lib.hid (show isTu xs = false by rw [Hi.out, hA, hW]; rfl)
              go_enter Try.func62, Try.ntmps62
              go_wp2_with fail
              go_quiet ((go_at_call 52; first | exact Calls.quiet_of_same (inRange_b _ _ _ _ HX.out) | exact Calls.quiet_of_same (inRange_b _ _ _ _ HY.out)))
              have hwd := below_drewN (Below.refl w.heap.size w) nq
              go_wp2_with fail
              refine (ascends_any B _ (xs.drop 1) _ (Ht.out.below (hwd.mono hB)) hB).mono ?_
              rintro e w1 ⟨rfl, hb1⟩
              rw [hA]
              have hw1 : Below w.heap.size w w1 := hwd.trans hb1
              have hs1 := hw1.size
              clear hb1
              go_wp2_with fail
              refine (within_any B _ (xs.drop 1) _ _ _ (Ht.out.below (hw1.mono hB)) (by omega)).mono ?_
              rintro e w2 ⟨rfl, rfl⟩
              rw [hW]
              go_wp2_with fail
              go_ret
              exact ⟨ret_b Hres.out.symm, hw1⟩
            · have Hres := Lib.hid (show isTu xs = falB xs by rw [Hi.out, hA, hW]; rfl)
              have Hl := Lib.hid (show xs.length ≤ 1000000000 by have := asc_len hA hW; simp at this; omega)
              have Hr := Lib.hid (show ∀ j, j < xs.length → 0 ≤ gx xs j ∧ gx xs j ≤ 9223372036854775807 from fun j hj => by
                rcases Nat.eq_zero_or_pos j with rfl | hp
                · omega
                · have := wi_range hW (j - 1) (by simp; omega)
                  rwa [gx_drop, show 1 + (j - 1) = j by omega] at this)
              have Hp := Lib.hid (show 0 < xs.length by have := H2.out; omega)
              go_enter Try.func62, Try.ntmps62
              go_wp2_with fail
              go_quiet ((go_at_call 52; first | exact Calls.quiet_of_same (inRange_b _ _ _ _ HX.out) | exact Calls.quiet_of_same (inRange_b _ _ _ _ HY.out)))
              have hwd := below_drewN (Below.refl w.heap.size w) nq
              go_wp2_with fail
              refine (ascends_any B _ (xs.drop 1) _ (Ht.out.below (hwd.mono hB)) hB).mono ?_
              rintro e w1 ⟨rfl, hb1⟩
              rw [hA]
              have hw1 : Below w.heap.size w w1 := hwd.trans hb1
              have hs1 := hw1.size
              clear hb1
              go_wp2_with fail
              refine (within_any B _ (xs.drop 1) _ _ _ (Ht.out.below (hw1.mono hB)) (by omega)).mono ?_
              rintro e w2 ⟨rfl, rfl⟩
              rw [hW]
              go_wp2_with fail
              refine (falls_any B _ xs _ (Hh.out.below (hw1.mono hB)) (by omega) Hl.out Hp.out Hr).mono ?_
              rintro e w3 ⟨rfl, hb3⟩
              go_wp2_with fail
              go_ret
              exact ⟨ret_b Hres.out.symm, hw1.trans (hb3.mono hs1)⟩
end WC
end Go.Proofs.Ytpclplagkjimmaa
