/-
  WALKS: are two lists of lists the same, asked by the laws.
-/
import Derived.Test.YtogkblncdpbhnaaWlkL4
import Derived.Test.YtogkblncdpbhnaaWlkL3
namespace Go.Proofs.Ytogkblncdpbhnaa
open Go.RowKit
set_option linter.unusedVariables false
namespace WL
open K Pl
set_option maxHeartbeats 400000 in
/-- Are two lists the same? In a world that is only read. -/
theorem likeInts_q (B B' : Nat) (v v' : Value) (xs ys : List Int) (w : World) (h : Is w B v xs) (h' : Is w B' v' ys) :
    Calls Try.prog 11 #[v, v'] w fun e w' => e = .returned (.bool (xs == ys)) ∧ Drawn w w' := by
  obtain ⟨A, n, c, rfl, hnc, hcm, hrd⟩ := h
  obtain ⟨A', n', c', rfl, hnc', hcm', hrd'⟩ := h'
  have Hlen := Lib.hid hrd.len; have Hlen' := Lib.hid hrd'.len
  unfold maxLen at hcm hcm'
  by_cases hnn : n = n'
  · subst hnn
    have hne : ((n : Int) != (n : Int)) = false := by simp
    go_enter Try.func11, Try.ntmps11
    go_wp2
    go_loopw [5] (fun i wr => ∃ k : Nat, k ≤ n ∧ i = .int .i64 k ∧ Hid (xs.take k = ys.take k) ∧ Drawn w wr) (fun i _ => n - (intOf i).toNat)
    case atStart => exact ⟨0, Nat.zero_le _, rfl, Lib.hid (by simp), Drawn.refl _⟩
    case round =>
      obtain ⟨k, hk, rfl, hpre, hdr⟩ := hrel
      by_cases hlt : k < n
      · obtain ⟨ad, rfl, hab, hc⟩ := hrd.pos (by omega)
        obtain ⟨ad', rfl, hab', hc'⟩ := hrd'.pos (by omega)
        have hc1 : wr.cell? (ad.add k) = some (.int .i64 (gx xs k)) := (hdr.cell _).trans (hc k hlt)
        have hc2 : wr.cell? (ad'.add k) = some (.int .i64 (gx ys k)) := (hdr.cell _).trans (hc' k hlt)
        have hi1 : 0 ≤ (k : Int) ∧ (k : Int) < (n : Int) := by omega
        clear hc hc'
        by_cases he : gx xs k = gx ys k
        · have hb1 : (gx xs k != gx ys k) = false := by simp [he]
          have Hpre2 := Lib.hid (take_eq_step xs ys k n Hlen.out Hlen'.out hlt hpre.out he)
          clear he
          go_wp2_with fail
          go_quiet (fail)
          go_wp2
          go_roundw
          case rel => exact ⟨k + 1, by omega, by go_num, Hpre2, hdr.drewN _⟩
          case measure => first | (simp [intOf]; done) | (simp [intOf]; omega)
        · have hb1 : (gx xs k != gx ys k) = true := by simp [he]
          have Hres := Lib.hid (ne_of_gx xs ys k he)
          clear he
          go_wp2_with fail
          go_quiet (fail)
          go_wp2
          go_ret
          exact ⟨ret_b Hres.out.symm, hdr.drewN _⟩
      · have hkn : k = n := by omega
        subst hkn
        go_wp2
        go_ret
        refine ⟨?_, hdr⟩
        have e := hpre.out
        rw [List.take_of_length_le (Nat.le_of_eq Hlen.out), List.take_of_length_le (Nat.le_of_eq Hlen'.out)] at e
        subst e
        simp
  · have hne : ((n : Int) != (n' : Int)) = true := by rw [bne_iff_ne]; omega
    have Hres := Lib.hid (ne_of_len xs ys (by rw [Hlen.out, Hlen'.out]; exact hnn))
    go_enter Try.func11, Try.ntmps11
    go_wp2
    go_ret
    exact ⟨ret_b Hres.out.symm, Drawn.refl _⟩
set_option maxHeartbeats 800000 in
/-- Are two lists of lists the same? -/
theorem likeRows5_any (B B' : Nat) (v v' : Value) (xs ys : List (List Int)) (w : World) (h : IsR w B v xs) (h' : IsR w B' v' ys) (hB : B ≤ w.heap.size) (hB' : B' ≤ w.heap.size) :
    Calls Try.prog 8 #[v, v'] w fun e w' => e = .returned (.bool (xs == ys)) ∧ Below w.heap.size w w' := by
  obtain ⟨us, hU⟩ := h
  obtain ⟨us', hU'⟩ := h'
  obtain ⟨A, c, rfl, hnc, hcm, hrd⟩ := hU.sh
  obtain ⟨A', c', rfl, hnc', hcm', hrd'⟩ := hU'.sh
  have He := Lib.hid hU.each
  have He' := Lib.hid hU'.each
  obtain ⟨n, Hn⟩ : ∃ n, Hid (xs.length = n) := ⟨_, Lib.hid rfl⟩
  obtain ⟨n', Hn'⟩ : ∃ n, Hid (ys.length = n) := ⟨_, Lib.hid rfl⟩
  rw [Hn.out] at hnc hrd ⊢
  rw [Hn'.out] at hnc' hrd' ⊢
  unfold maxLen at hcm hcm'
  clear hU hU'
  by_cases hnn : n = n'
  · subst hnn
    have hne : ((n : Int) != (n : Int)) = false := by simp
    go_enter Try.func8, Try.ntmps8
    go_wp2
    go_loopw [5] (fun i wr => ∃ k : Nat, k ≤ n ∧ i = .int .i64 k ∧ Hid (xs.take k = ys.take k) ∧ Drawn w wr) (fun i _ => n - (intOf i).toNat)
    case atStart => exact ⟨0, Nat.zero_le _, rfl, Lib.hid (by simp), Drawn.refl _⟩
    case round =>
      obtain ⟨k, hk, rfl, hpre, hdr⟩ := hrel
      by_cases hlt : k < n
      · obtain ⟨ad, rfl, hab, hc⟩ := hrd (by omega)
        obtain ⟨ad', rfl, hab', hc'⟩ := hrd' (by omega)
        have hc1 : wr.cell? (ad.add k) = some (ux us k) := (hdr.cell _).trans (hc k hlt)
        have hc2 : wr.cell? (ad'.add k) = some (ux us' k) := (hdr.cell _).trans (hc' k hlt)
        have hi1 : 0 ≤ (k : Int) ∧ (k : Int) < (n : Int) := by omega
        have E1 := Lib.hid (He.out k (by rw [Hn.out]; exact hlt))
        have E2 := Lib.hid (He'.out k (by rw [Hn'.out]; exact hlt))
        clear hc hc'
        cases hR : (gxx xs k == gxx ys k)
        · have Hres := Lib.hid (ne_of_gxx xs ys k hR)
          go_wp2_with fail
          go_quiet ((go_at_call 11; exact Calls.quiet_of (likeInts_q B B' _ _ _ _ _ (Is.drewN (Is.drawn E1.out hdr) _) (Is.drewN (Is.drawn E2.out hdr) _))))
          rw [hR]
          go_wp2
          go_ret
          exact ⟨ret_b Hres.out.symm, below_drewN (hdr.below _) _⟩
        · have Hpre2 := Lib.hid (take_eq_step2 xs ys k n Hn.out Hn'.out hlt hpre.out hR)
          go_wp2_with fail
          go_quiet ((go_at_call 11; exact Calls.quiet_of (likeInts_q B B' _ _ _ _ _ (Is.drewN (Is.drawn E1.out hdr) _) (Is.drewN (Is.drawn E2.out hdr) _))))
          rw [hR]
          go_wp2
          go_roundw
          case rel => exact ⟨k + 1, by omega, by go_num, Hpre2, hdr.drewN _⟩
          case measure => first | (simp [intOf]; done) | (simp [intOf]; omega)
      · have hkn : k = n := by omega
        subst hkn
        go_wp2
        go_ret
        refine ⟨?_, hdr.below _⟩
        have e := hpre.out
        rw [List.take_of_length_le (Nat.le_of_eq Hn.out), List.take_of_length_le (Nat.le_of_eq Hn'.out)] at e
        subst e
        simp
  · have hne : ((n : Int) != (n' : Int)) = true := by rw [bne_iff_ne]; omega
    have Hres := Lib.hid (ne_of_len2 xs ys (by rw [Hn.out, Hn'.out]; exact hnn))
    go_enter Try.func8, Try.ntmps8
    go_wp2
    go_ret
    exact ⟨ret_b Hres.out.symm, Below.refl _ _⟩
end WL
end Go.Proofs.Ytogkblncdpbhnaa
