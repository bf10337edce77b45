/-
  WALKS, CHAPTER 3: divisors of a branch; is it one?
-/
import Derived.Test.YtfginjifplcedaaDoorWlkA1
import Derived.Test.YtfginjifplcedaaDoorPlF
import Derived.StillTailTactics
namespace Go.Proofs.YtfginjifplcedaaDoor
open Go.RowKit
set_option linter.unusedVariables false
namespace WC
open K Pl WA
theorem dg_bd {xs : List Int} (h : ∀ j, j < xs.length → 0 ≤ gx xs j ∧ gx xs j ≤ 9223372036854775807) : ∀ k, k ≤ xs.length → 0 ≤ dg xs k ∧ dg xs k ≤ 9223372036854775807
  | 0, _ => by simp [dg]
  | k + 1, hk => by
    have i := dg_bd h k (by omega)
    have := h k (by omega)
    exact ⟨gcdI_nonneg _ _, gcdI_le2 _ _ _ (by omega) (by omega) (by omega) (by omega)⟩
set_option maxHeartbeats 800000 in
theorem divisors_any (B : Nat) (v : Value) (xs : List Int) (w : World) (h : Is w B v xs) (hB : B ≤ w.heap.size) (hl : xs.length ≤ 1000000000) (hr : Hid (∀ j, j < xs.length → 0 ≤ gx xs j ∧ gx xs j ≤ 9223372036854775807)) :
    Calls Tryd.prog 25 #[v] w fun e w' => ∃ v', e = .returned v' ∧ Ow w' w.heap.size w'.heap.size v' (divs xs) ∧ Below w.heap.size w w' := by
  obtain ⟨A, n, c, rfl, hnc, hcm, hrd⟩ := h
  have Hlen := Lib.hid hrd.len
  rw [Hlen.out] at hl
  unfold maxLen at hcm
  have hown0 : (w.alloc (.cells #[] 2)).ownsRow w.heap.size 2 1 (.slice (some ⟨w.heap.size, 0, none⟩) 0 0) ([] : List Int).length (([] : List Int).map (Value.int .i64)) := World.ownsRow_lit w #[] 0 (Nat.le_refl _) (by decide) rfl
  have hbe0 : Below w.heap.size w (w.alloc (.cells #[] 2)) := (Below.refl _ _).alloc (Nat.le_refl _) _
  go_enter Tryd.func25, Tryd.ntmps25
  go_wp2
  go_loopw [3, 4, 10] (fun u d i wr => ∃ k : Nat, k ≤ n ∧ i = .int .i64 k ∧ d = .int .i64 (dg xs k) ∧ Hid (wr.ownsRow w.heap.size 2 1 u (dvl xs k).length ((dvl xs k).map (Value.int .i64))) ∧ Below w.heap.size w wr) (fun _ _ i _ => n - (intOf i).toNat)
  case atStart => exact ⟨0, Nat.zero_le _, rfl, rfl, Lib.hid hown0, hbe0⟩
  case round =>
    clear hown0 hbe0
    obtain ⟨k, hk, rfl, rfl, hown, hbe⟩ := hrel
    by_cases hlt : k < n
    · obtain ⟨ad, rfl, hab, hc⟩ := hrd.pos (by omega)
      have hc1 : wr.cell? (ad.add k) = some (.int .i64 (gx xs k)) := (hbe.cell (by rw [block_of_add]; omega)).trans (hc k hlt)
      have hi1 : 0 ≤ (k : Int) ∧ (k : Int) < (n : Int) := by omega
      have hb1 := hr.out k (by rw [Hlen.out]; exact hlt)
      have hb2 := dg_bd hr.out k (by rw [Hlen.out]; exact hk)
      have hs := hbe.size
      have Hsn := Lib.hid (dvl_snoc xs k)
      have Hlk := Lib.hid (dvl_len xs k)
      clear hc
      go_wp2_with fail
      refine (divisor_any _ _ _ (by omega) (by omega) (by omega) (by omega)).mono ?_
      rintro e w1 ⟨rfl, hb3⟩
      have hown1 := own_later hown.out hb3
      have hbe1 := hbe.trans (hb3.mono hs)
      have hs1 := hbe1.size
      rw [← dg_succ]
      clear hown hb3 hbe
      go_wp2_with (at_builtin; refine wp_append_int rfl _ _ rfl w.heap.size _ (dvl xs k) rfl (hown1.alloc _) w1.heap.size (dg xs (k + 1)) 1 rfl (by simp) (by rw [Hlk.out]; omega) (by simp; omega) ?_)
      intro v' w2 hown2 hgrow
      have hbe2 := below_append hbe1 hs1 hown1 (Nat.le_refl _) hgrow
      have Hown2 := Lib.hid (show w2.ownsRow w.heap.size 2 1 v' (dvl xs (k + 1)).length ((dvl xs (k + 1)).map (Value.int .i64)) by rw [Hsn.out]; simpa using hown2)
      clear hown1 hgrow hown2 hbe1
      go_wp2
      go_roundw
      case rel => exact ⟨k + 1, by omega, by go_num, rfl, Hown2, hbe2⟩
      case measure => first | (simp [intOf]; done) | (simp [intOf]; omega)
    · obtain rfl : k = n := by omega
      go_wp2
      go_ret
      exact ⟨_, rfl, by unfold divs; rw [Hlen.out]; exact Ow.of_own hown.out, hbe⟩
set_option maxHeartbeats 400000 in
theorem ascends_any (B : Nat) (v : Value) (xs : List Int) (w : World) (h : Is w B v xs) (hB : B ≤ w.heap.size) : Calls Tryd.prog 20 #[v] w fun e w' => e = .returned (.bool (ascB xs)) ∧ Below w.heap.size w w' := by
  obtain ⟨A, n, c, rfl, hnc, hcm, hrd⟩ := h
  have Hlen := Lib.hid hrd.len
  unfold maxLen at hcm
  go_enter Tryd.func20, Tryd.ntmps20
  go_wp2
  go_loopw [3] (fun i wr => ∃ k : Nat, 1 ≤ k ∧ (k ≤ n ∨ k = 1) ∧ i = .int .i64 k ∧ Hid (∀ j, 1 ≤ j → j < k → gx xs (j - 1) < gx xs j) ∧ Below w.heap.size w wr) (fun i _ => n - (intOf i).toNat)
  case atStart => exact ⟨1, by omega, by omega, rfl, Lib.hid (fun j h1 h2 => by omega), Below.refl _ _⟩
  case round =>
    obtain ⟨k, hk1, hk, rfl, hpre, hbe⟩ := hrel
    by_cases hlt : k < n
    · obtain ⟨ad, rfl, hab, hc⟩ := hrd.pos (by omega)
      have hc1 : wr.cell? (ad.add k) = some (.int .i64 (gx xs k)) := (hbe.cell (by rw [block_of_add]; omega)).trans (hc k hlt)
      have hc2 : wr.cell? (ad.add (k - 1)) = some (.int .i64 (gx xs (k - 1))) := (hbe.cell (by rw [block_of_add]; omega)).trans (hc (k - 1) (by omega))
      have hi1 : 0 ≤ (k : Int) ∧ (k : Int) < (n : Int) := by omega
      have hi2 : 0 ≤ (k : Int) - 1 ∧ (k : Int) - 1 < (n : Int) := by omega
      clear hc hk
      by_cases he : gx xs k ≤ gx xs (k - 1)
      · have Hres := Lib.hid (show ascB xs = false from allF_false k hk1 (by rw [Hlen.out]; exact hlt) (by simp; exact he))
        go_wp2_with fail
        go_quiet (fail)
        go_wp2
        go_ret
        exact ⟨ret_b Hres.out.symm, below_drewN hbe _⟩
      · have Hpre2 := Lib.hid (show ∀ j, 1 ≤ j → j < k + 1 → gx xs (j - 1) < gx xs j from fun j h1 h2 => by
          rcases Nat.lt_or_ge j k with h3 | h3
          · exact hpre.out j h1 h3
          · obtain rfl : j = k := by omega
            omega)
        go_wp2_with fail
        go_quiet (fail)
        go_wp2
        go_roundw
        case rel => exact ⟨k + 1, by omega, by omega, by go_num, Hpre2, below_drewN hbe _⟩
        case measure => first | (simp [intOf]; done) | (simp [intOf]; omega)
    · have Hres := Lib.hid (show ascB xs = true from allF_true.2 fun j h1 h2 => by rw [Hlen.out] at h2; simpa using hpre.out j h1 (by omega))
      clear hk
      go_wp2
      go_ret
      exact ⟨ret_b Hres.out.symm, hbe⟩
set_option maxHeartbeats 400000 in
theorem within_any (B : Nat) (v : Value) (xs : List Int) (l m : Int) (w : World) (h : Is w B v xs) (hB : B ≤ w.heap.size) : Calls Tryd.prog 21 #[v, .int .i64 l, .int .i64 m] w fun e w' => e = .returned (.bool (wiB xs l m)) ∧ w = w' := by
  obtain ⟨A, n, c, rfl, hnc, hcm, hrd⟩ := h
  have Hlen := Lib.hid hrd.len
  unfold maxLen at hcm
  go_enter Tryd.func21, Tryd.ntmps21
  go_wp2
  go_loop [11] (fun i => ∃ k : Nat, k ≤ n ∧ i = .int .i64 k ∧ Hid (∀ j, j < k → inR (gx xs j) l m = true)) (fun i => n - (intOf i).toNat)
  case atStart => exact ⟨0, Nat.zero_le _, rfl, Lib.hid (fun j h1 => by omega)⟩
  case round =>
    obtain ⟨k, hk, rfl, hpre⟩ := hrel
    by_cases hlt : k < n
    · obtain ⟨ad, rfl, hab, hc⟩ := hrd.pos (by omega)
      have hc1 : w.cell? (ad.add k) = some (.int .i64 (gx xs k)) := hc k hlt
      have hi1 : 0 ≤ (k : Int) ∧ (k : Int) < (n : Int) := by omega
      clear hc
      cases he : inR (gx xs k) l m
      · have Hres := Lib.hid (show wiB xs l m = false from allF_false k (by omega) (by rw [Hlen.out]; exact hlt) he)
        go_wp2_with (go_at_call 19; refine (inRange_any _ _ _ _).mono ?_; rintro e w' ⟨rfl, rfl⟩)
        go_ret
        exact ⟨ret_b Hres.out.symm, rfl⟩
      · have Hpre2 := Lib.hid (show ∀ j, j < k + 1 → inR (gx xs j) l m = true from fun j h2 => by
          rcases Nat.lt_or_ge j k with h3 | h3
          · exact hpre.out j h3
          · obtain rfl : j = k := by omega
            exact he)
        go_wp2_with (go_at_call 19; refine (inRange_any _ _ _ _).mono ?_; rintro e w' ⟨rfl, rfl⟩)
        go_round
        case rel => exact ⟨k + 1, by omega, by go_num, Hpre2⟩
        case measure => first | (simp [intOf]; done) | (simp [intOf]; omega)
    · have Hres := Lib.hid (show wiB xs l m = true from allF_true.2 fun j h1 h2 => by rw [Hlen.out] at h2; exact hpre.out j (by omega))
      go_wp2
      go_ret
      exact ⟨ret_b Hres.out.symm, rfl⟩
set_option maxHeartbeats 800000 in
theorem falls_any (B : Nat) (v : Value) (xs : List Int) (w : World) (h : Is w B v xs) (hB : B ≤ w.heap.size) (hl : xs.length ≤ 1000000000) (hp : 0 < xs.length) (hr : Hid (∀ j, j < xs.length → 0 ≤ gx xs j ∧ gx xs j ≤ 9223372036854775807)) :
    Calls Tryd.prog 22 #[v] w fun e w' => e = .returned (.bool (falB xs)) ∧ Below w.heap.size w w' := by
  have Hh := Lib.hid h
  obtain ⟨n, Hn⟩ : ∃ n, Hid (xs.length = n) := ⟨_, Lib.hid rfl⟩
  have hn0 : 0 < n := by rw [← Hn.out]; exact hp
  have hn9 : n ≤ 1000000000 := by rw [← Hn.out]; exact hl
  have Hl := Lib.hid hl
  clear h hp hl
  go_enter Tryd.func22, Tryd.ntmps22
  go_wp2_with fail
  refine (divisors_any B v xs _ Hh.out hB Hl.out hr).mono ?_
  rintro e w1 ⟨v1, rfl, ow1, hb1⟩
  obtain ⟨A, m, c, rfl, hmc, hcm, hrd⟩ := ow1.is
  obtain rfl : m = n := by have := hrd.len; rw [divs_len, Hn.out] at this; omega
  obtain ⟨ad, rfl, hab, hc⟩ := hrd.pos hn0
  have Hc := Lib.hid (show ∀ j, j < m → w1.cell? (ad.add j) = some (.int .i64 (dg xs (j + 1))) from fun j hj => by rw [hc j hj, gx_divs _ _ (by rw [Hn.out]; exact hj)])
  have hs1 := hb1.size
  unfold maxLen at hcm
  clear ow1 hrd hc
  go_wp2
  go_loopw [4] (fun i wr => ∃ k : Nat, 1 ≤ k ∧ k ≤ m ∧ i = .int .i64 k ∧ Hid (∀ j, 1 ≤ j → j < k → dg xs (j + 1) < dg xs j) ∧ Below w1.heap.size w1 wr) (fun i _ => m - (intOf i).toNat)
  case atStart => exact ⟨1, by omega, by omega, rfl, Lib.hid (fun j h1 h2 => by omega), Below.refl _ _⟩
  case round =>
    obtain ⟨k, hk1, hk, rfl, hpre, hbe⟩ := hrel
    have hbw := Lib.hid (hb1.trans (hbe.mono hs1))
    by_cases hlt : k < m
    · have hc1 : wr.cell? (ad.add k) = some (.int .i64 (dg xs (k + 1))) := (hbe.cell (by rw [block_of_add]; omega)).trans (Hc.out k hlt)
      have hc2 : wr.cell? (ad.add (k - 1)) = some (.int .i64 (dg xs k)) := by
        have e := (hbe.cell (p := ad.add (k - 1)) (by rw [block_of_add]; omega)).trans (Hc.out (k - 1) (by omega))
        rwa [show k - 1 + 1 = k by omega] at e
      have hi1 : 0 ≤ (k : Int) ∧ (k : Int) < (m : Int) := by omega
      have hi2 : 0 ≤ (k : Int) - 1 ∧ (k : Int) - 1 < (m : Int) := by omega
      by_cases he : dg xs k ≤ dg xs (k + 1)
      · have Hres := Lib.hid (show falB xs = false by unfold falB; rw [allF_false k hk1 (by rw [Hn.out]; exact hlt) (by simp; exact he)]; rfl)
        go_wp2_with fail
        go_quiet (fail)
        go_wp2
        go_ret
        exact ⟨ret_b Hres.out.symm, below_drewN hbw.out _⟩
      · have Hpre2 := Lib.hid (show ∀ j, 1 ≤ j → j < k + 1 → dg xs (j + 1) < dg xs j from fun j h1 h2 => by
          rcases Nat.lt_or_ge j k with h3 | h3
          · exact hpre.out j h1 h3
          · obtain rfl : j = k := by omega
            omega)
        go_wp2_with fail
        go_quiet (fail)
        go_wp2
        go_roundw
        case rel => exact ⟨k + 1, by omega, by omega, by go_num, Hpre2, below_drewN hbe _⟩
        case measure => first | (simp [intOf]; done) | (simp [intOf]; omega)
    · obtain rfl : k = m := by omega
      have Hres := Lib.hid (show falB xs = (dg xs k == 1) by
        unfold falB; rw [allF_true.2 fun j h1 h2 => by rw [Hn.out] at h2; simpa using hpre.out j h1 h2, Hn.out]; rfl)
      have hc2 : wr.cell? (ad.add (k - 1)) = some (.int .i64 (dg xs k)) := by
        have e := (hbe.cell (p := ad.add (k - 1)) (by rw [block_of_add]; omega)).trans (Hc.out (k - 1) (by omega))
        rwa [show k - 1 + 1 = k by omega] at e
      have hi2 : 0 ≤ (k : Int) - 1 ∧ (k : Int) - 1 < (k : Int) := by omega
      go_wp2
      go_ret
      exact ⟨ret_b Hres.out.symm, hbw.out⟩
end WC
end Go.Proofs.YtfginjifplcedaaDoor
