/-
  WALKS: are two lists of numbers the same, asked by four functions.
-/
import Derived.Test.YtogkblncdpbhnaaWlkL1
namespace Go.Proofs.Ytogkblncdpbhnaa
open Go.RowKit
set_option linter.unusedVariables false
namespace WL
open K Pl
set_option maxHeartbeats 400000 in
/-- Are two lists the same? -/
theorem likeInts_any (B B' : Nat) (v v' : Value) (xs ys : List Int) (w : World) (h : Is w B v xs) (h' : Is w B' v' ys) (hB : B ≤ w.heap.size) (hB' : B' ≤ w.heap.size) :
    Calls Try.prog 11 #[v, v'] w fun e w' => e = .returned (.bool (xs == ys)) ∧ Below w.heap.size w w' := by
  obtain ⟨A, n, c, rfl, hnc, hcm, hrd⟩ := h
  obtain ⟨A', n', c', rfl, hnc', hcm', hrd'⟩ := h'
  have Hlen := Lib.hid hrd.len; have Hlen' := Lib.hid hrd'.len
  unfold maxLen at hcm hcm'
  by_cases hnn : n = n'
  · subst hnn
    have hne : ((n : Int) != (n : Int)) = false := by simp
    go_enter Try.func11, Try.ntmps11
    go_wp2
    go_loopw [5] (fun i wr => ∃ k : Nat, k ≤ n ∧ i = .int .i64 k ∧ Hid (xs.take k = ys.take k) ∧ Below w.heap.size w wr) (fun i _ => n - (intOf i).toNat)
    case atStart => exact ⟨0, Nat.zero_le _, rfl, Lib.hid (by simp), Below.refl _ _⟩
    case round =>
      obtain ⟨k, hk, rfl, hpre, hbe⟩ := hrel
      by_cases hlt : k < n
      · obtain ⟨ad, rfl, hab, hc⟩ := hrd.pos (by omega)
        obtain ⟨ad', rfl, hab', hc'⟩ := hrd'.pos (by omega)
        have hc1 : wr.cell? (ad.add k) = some (.int .i64 (gx xs k)) := (hbe.cell (by rw [block_of_add]; omega)).trans (hc k hlt)
        have hc2 : wr.cell? (ad'.add k) = some (.int .i64 (gx ys k)) := (hbe.cell (by rw [block_of_add]; omega)).trans (hc' k hlt)
        have hi1 : 0 ≤ (k : Int) ∧ (k : Int) < (n : Int) := by omega
        clear hc hc'
        by_cases he : gx xs k = gx ys k
        · have hb1 : (gx xs k != gx ys k) = false := by simp [he]
          have Hpre2 := Lib.hid (take_eq_step xs ys k n Hlen.out Hlen'.out hlt hpre.out he)
          clear he
          go_wp2_with fail
          go_quiet (fail)
          go_wp2
          go_roundw
          case rel => exact ⟨k + 1, by omega, by go_num, Hpre2, below_drewN hbe _⟩
          case measure => first | (simp [intOf]; done) | (simp [intOf]; omega)
        · have hb1 : (gx xs k != gx ys k) = true := by simp [he]
          have Hres := Lib.hid (ne_of_gx xs ys k he)
          clear he
          go_wp2_with fail
          go_quiet (fail)
          go_wp2
          go_ret
          exact ⟨ret_b Hres.out.symm, below_drewN hbe _⟩
      · have hkn : k = n := by omega
        subst hkn
        go_wp2
        go_ret
        refine ⟨?_, hbe⟩
        have e := hpre.out
        rw [List.take_of_length_le (Nat.le_of_eq Hlen.out), List.take_of_length_le (Nat.le_of_eq Hlen'.out)] at e
        subst e
        simp
  · have hne : ((n : Int) != (n' : Int)) = true := by rw [bne_iff_ne]; omega
    have Hres := Lib.hid (ne_of_len xs ys (by rw [Hlen.out, Hlen'.out]; exact hnn))
    go_enter Try.func11, Try.ntmps11
    go_wp2
    go_ret
    exact ⟨ret_b Hres.out.symm, Below.refl _ _⟩
set_option maxHeartbeats 400000 in
/-- Are two lists the same? -/
theorem Equal_any (B B' : Nat) (v v' : Value) (xs ys : List Int) (w : World) (h : Is w B v xs) (h' : Is w B' v' ys) (hB : B ≤ w.heap.size) (hB' : B' ≤ w.heap.size) :
    Calls Try.prog 39 #[v, v'] w fun e w' => e = .returned (.bool (xs == ys)) ∧ Below w.heap.size w w' := by
  obtain ⟨A, n, c, rfl, hnc, hcm, hrd⟩ := h
  obtain ⟨A', n', c', rfl, hnc', hcm', hrd'⟩ := h'
  have Hlen := Lib.hid hrd.len; have Hlen' := Lib.hid hrd'.len
  unfold maxLen at hcm hcm'
  by_cases hnn : n = n'
  · subst hnn
    have hne : ((n : Int) != (n : Int)) = false := by simp
    go_enter Try.func39, Try.ntmps39
    go_wp2
    go_loopw [13] (fun i wr => ∃ k : Nat, k ≤ n ∧ i = .int .i64 k ∧ Hid (xs.take k = ys.take k) ∧ Below w.heap.size w wr) (fun i _ => n - (intOf i).toNat)
    case atStart => exact ⟨0, Nat.zero_le _, rfl, Lib.hid (by simp), Below.refl _ _⟩
    case round =>
      obtain ⟨k, hk, rfl, hpre, hbe⟩ := hrel
      by_cases hlt : k < n
      · obtain ⟨ad, rfl, hab, hc⟩ := hrd.pos (by omega)
        obtain ⟨ad', rfl, hab', hc'⟩ := hrd'.pos (by omega)
        have hc1 : wr.cell? (ad.add k) = some (.int .i64 (gx xs k)) := (hbe.cell (by rw [block_of_add]; omega)).trans (hc k hlt)
        have hc2 : wr.cell? (ad'.add k) = some (.int .i64 (gx ys k)) := (hbe.cell (by rw [block_of_add]; omega)).trans (hc' k hlt)
        have hi1 : 0 ≤ (k : Int) ∧ (k : Int) < (n : Int) := by omega
        clear hc hc'
        by_cases he : gx xs k = gx ys k
        · have hb1 : (gx xs k != gx ys k) = false := by simp [he]
          have Hpre2 := Lib.hid (take_eq_step xs ys k n Hlen.out Hlen'.out hlt hpre.out he)
          clear he
          go_wp2_with fail
          go_quiet (fail)
          go_wp2
          go_roundw
          case rel => exact ⟨k + 1, by omega, by go_num, Hpre2, below_drewN hbe _⟩
          case measure => first | (simp [intOf]; done) | (simp [intOf]; omega)
        · have hb1 : (gx xs k != gx ys k) = true := by simp [he]
          have Hres := Lib.hid (ne_of_gx xs ys k he)
          clear he
          go_wp2_with fail
          go_quiet (fail)
          go_wp2
          go_ret
          exact ⟨ret_b Hres.out.symm, below_drewN hbe _⟩
      · have hkn : k = n := by omega
        subst hkn
        go_wp2
        go_ret
        refine ⟨?_, hbe⟩
        have e := hpre.out
        rw [List.take_of_length_le (Nat.le_of_eq Hlen.out), List.take_of_length_le (Nat.le_of_eq Hlen'.out)] at e
        subst e
        simp
  · have hne : ((n : Int) != (n' : Int)) = true := by rw [bne_iff_ne]; omega
    have Hres := Lib.hid (ne_of_len xs ys (by rw [Hlen.out, Hlen'.out]; exact hnn))
    go_enter Try.func39, Try.ntmps39
    go_wp2
    go_ret
    exact ⟨ret_b Hres.out.symm, Below.refl _ _⟩
end WL
end Go.Proofs.Ytogkblncdpbhnaa
