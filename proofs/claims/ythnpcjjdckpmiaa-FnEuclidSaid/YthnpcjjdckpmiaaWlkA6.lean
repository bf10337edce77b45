/-
  WALKS, CHAPTER 1: negative continued fractions.
-/
import Derived.Test.YthnpcjjdckpmiaaWlkA2
namespace Go.Proofs.Ythnpcjjdckpmiaa
open Go.RowKit
set_option linter.unusedVariables false
namespace WA
open K Pl

/-- What a function that returns a list of numbers and a code leaves. -/
def Li2 (r : List Int × Int) (w : World) (e : Ending) (w' : World) : Prop := ∃ v, e = .returned (.tuple #[v, .int .i64 r.2]) ∧ Ow w' w.heap.size w'.heap.size v r.1 ∧ Below w.heap.size w w'
theorem Li2.nil {w w' : World} {c : Int} {r : List Int × Int} (hr : r = ([], c)) (h : Below w.heap.size w w') : Li2 r w (.returned (.tuple #[.slice none 0 0, .int .i64 c])) w' := by
  subst hr
  exact ⟨_, rfl, ⟨World.ownsRow_nil _ _ _ _, fun k hk => by simp [Value.ownBlock] at hk⟩, h⟩

theorem ceiling_any (x y : Nat) (w : World) (hx : x ≤ 1000000000) (hy : y ≤ 1000000000) (h0 : 0 < y) : Calls Try.prog 31 #[.int .i64 (x : Int), .int .i64 (y : Int)] w fun e w' => e = .returned (.int .i64 (ceilN x y : Nat)) ∧ w = w' := by
  have H := Lib.hid (ceilN_cast x y h0)
  go_enter Try.func31, Try.ntmps31
  go_wp2
  go_ret
  exact ⟨ret_i H.out, rfl⟩
set_option maxHeartbeats 1600000 in
theorem NegativeFraction_any (a b : Int) (w : World) : Calls Try.prog 13 #[.int .i64 a, .int .i64 b] w (Li2 (negF a b) w) := by
  have Hd := Lib.hid (show negF a b = if isNat a && isNat b && decide (b < a) then (if gcdI a b = 1 then negOut (nf 1000 a.toNat b.toNat) else ([], 5)) else ([], 2) from rfl)
  cases hA : isNat a
  · have Hr := Lib.hid (show negF a b = ([], 2) by rw [Hd.out, hA]; rfl)
    go_enter Try.func13, Try.ntmps13
    go_wp2_with (go_at_call 22; refine (isNatural_any _ _).mono ?_; rintro e w' ⟨rfl, rfl⟩)
    go_ret2
    exact Li2.nil Hr.out (Below.refl _ _)
  · cases hB : isNat b
    · have Hr := Lib.hid (show negF a b = ([], 2) by rw [Hd.out, hA, hB]; rfl)
      go_enter Try.func13, Try.ntmps13
      go_wp2_with (go_at_call 22; refine (isNatural_any _ _).mono ?_; rintro e w' ⟨rfl, rfl⟩)
      go_ret2
      exact Li2.nil Hr.out (Below.refl _ _)
    · have ba := isNat_true.1 hA
      have bb := isNat_true.1 hB
      by_cases hab : b < a
      · by_cases hg : gcdI a b = 1
        · have Hr := Lib.hid (show negF a b = negOut (nf 1000 a.toNat b.toNat) by rw [Hd.out, hA, hB, decide_eq_true hab, hg]; rfl)
          clear Hd
          obtain ⟨x0, rfl⟩ := Int.eq_ofNat_of_zero_le (show 0 ≤ a by omega)
          obtain ⟨y0, rfl⟩ := Int.eq_ofNat_of_zero_le (show 0 ≤ b by omega)
          have Hg := Lib.hid hg; clear hg
          go_enter Try.func13, Try.ntmps13
          go_wp2_with (go_at_call 22; refine (isNatural_any _ _).mono ?_; rintro e w' ⟨rfl, rfl⟩)
          refine (divisor_any _ _ _ (by omega) (by omega) (by omega) (by omega)).mono ?_
          rintro e w1 ⟨rfl, hb1⟩
          rw [Hg.out]
          go_wp2_with fail
          have hown0 : (w1.alloc (.cells #[] 2)).ownsRow w.heap.size 2 1 (.slice (some ⟨w1.heap.size, 0, none⟩) 0 0) ([] : List Int).length (([] : List Int).map (Value.int .i64)) := World.ownsRow_lit w1 #[] 0 hb1.size (by decide) rfl
          have hbe0 : Below w.heap.size w (w1.alloc (.cells #[] 2)) := hb1.alloc hb1.size _
          have Hr2 : Hid (negF (x0 : Int) (y0 : Int) = negOut (nf 1000 x0 y0)) := Lib.hid (by rw [Hr.out]; rfl)
          clear Hr hA hB Hg
          go_loopw [0, 1, 6] (fun s t v wr => ∃ (x y : Nat) (acc : List Int), s = .int .i64 x ∧ t = .int .i64 y ∧ x ≤ 1000000000 ∧ y < x ∧ acc.length ≤ 1000 ∧ Hid ((nf (1000 - acc.length) x y).map (acc ++ ·) = nf 1000 x0 y0) ∧
              wr.ownsRow w.heap.size 2 1 v acc.length (acc.map (Value.int .i64)) ∧ Below w.heap.size w wr) (fun _ t _ _ => (intOf t).toNat)
          case atStart => exact ⟨x0, y0, [], rfl, rfl, by omega, by omega, by simp, Lib.hid (by simp), hown0, hbe0⟩
          case round =>
            clear hown0 hbe0
            obtain ⟨x, y, acc, rfl, rfl, hx, hyx, hacc, hnf, hown, hbe⟩ := hrel
            obtain ⟨A, cap, rfl, hcap, hcapm⟩ := own_shape hown
            by_cases hy : 0 < y
            · by_cases hfull : acc.length = 1000
              · have Hres := Lib.hid (show negF (x0 : Int) (y0 : Int) = ([], 3) by
                  rw [Hr2.out, ← hnf.out, hfull, nf_end x y hy]; rfl)
                have he : ((acc.length : Int) == 1000) = true := by simp; omega
                clear hfull
                go_wp2_with fail
                go_ret2
                exact Li2.nil Hres.out hbe
              · have he : ((acc.length : Int) == 1000) = false := by simp; omega
                have hlt : acc.length < 1000 := by omega
                obtain ⟨c1, c2⟩ := ceilN_spec x y hy
                have Hstep := Lib.hid (show (nf (1000 - (acc ++ [(ceilN x y : Int)]).length) y (ceilN x y * y - x)).map ((acc ++ [(ceilN x y : Int)]) ++ ·) = nf 1000 x0 y0 by
                  rw [← hnf.out, show 1000 - acc.length = (999 - acc.length) + 1 by omega, nf_acc acc _ x y hy]
                  simp)
                clear hfull
                generalize hc : ceilN x y = c at *
                have Hc := Lib.hid hc; clear hc
                have hp1 : (x : Int) ≤ (c : Int) * (y : Int) := by exact_mod_cast c1
                have hp2 : (c : Int) * (y : Int) < (x : Int) + (y : Int) := by exact_mod_cast c2
                go_wp2_with (first
                  | (go_at_call 31; refine (ceiling_any _ _ _ (by omega) (by omega) hy).mono ?_; rintro e w' ⟨rfl, rfl⟩; rw [Hc.out])
                  | (at_builtin; refine wp_append_int rfl _ _ rfl w.heap.size _ acc rfl (hown.alloc _) wr.heap.size c 1 rfl (by simp) (by omega) (by have := hbe.size; simp; omega) ?_))
                intro v' w2 hown2 hgrow
                have hbe2 := below_append hbe hbe.size hown (Nat.le_refl _) hgrow
                clear hown hgrow
                go_wp2
                go_roundw
                case rel =>
                  refine ⟨y, c * y - x, acc ++ [(c : Int)], rfl, ?_, by omega, by omega, by simp; omega, Hstep, by simpa using hown2, hbe2⟩
                  congr 1; rw [Int.natCast_sub c1, Int.natCast_mul]
                case measure => simp [intOf]; omega
            · have hy0 : y = 0 := by omega
              have Hres := Lib.hid (show negF (x0 : Int) (y0 : Int) = (acc, 0) by
                rw [Hr2.out, ← hnf.out, hy0, nf_zero]; simp [negOut])
              clear hy0
              go_wp2_with fail
              go_ret2
              refine ⟨.slice A acc.length cap, by rw [Hres.out]; rfl, ?_, hbe⟩
              rw [Hres.out]
              exact Ow.of_own hown
        · have Hr := Lib.hid (show negF a b = ([], 5) by rw [Hd.out, hA, hB, decide_eq_true hab, if_neg hg]; rfl)
          have hg1 : 1 < gcdI a b := by have := gcdI_pos a b (by omega); omega
          clear hg
          go_enter Try.func13, Try.ntmps13
          go_wp2_with (go_at_call 22; refine (isNatural_any _ _).mono ?_; rintro e w' ⟨rfl, rfl⟩)
          refine (divisor_any _ _ _ (by omega) (by omega) (by omega) (by omega)).mono ?_
          rintro e w1 ⟨rfl, hb1⟩
          go_wp2_with fail
          go_ret2
          exact Li2.nil Hr.out hb1
      · have Hr := Lib.hid (show negF a b = ([], 2) by rw [Hd.out, hA, hB, decide_eq_false hab]; rfl)
        go_enter Try.func13, Try.ntmps13
        go_wp2_with (go_at_call 22; refine (isNatural_any _ _).mono ?_; rintro e w' ⟨rfl, rfl⟩)
        go_ret2
        exact Li2.nil Hr.out (Below.refl _ _)
set_option maxHeartbeats 1600000 in
theorem sNegativeFraction_any (a b : Int) (w : World) : Calls Try.prog 14 #[.int .i64 a, .int .i64 b] w (Li2 (negF a b) w) := by
  have Hd := Lib.hid (show negF a b = if isNat a && isNat b && decide (b < a) then (if gcdI a b = 1 then negOut (nf 1000 a.toNat b.toNat) else ([], 5)) else ([], 2) from rfl)
  cases hA : isNat a
  · have Hr := Lib.hid (show negF a b = ([], 2) by rw [Hd.out, hA]; rfl)
    go_enter Try.func14, Try.ntmps14
    go_wp2_with (go_at_call 24; refine (l01Natural_any _ _).mono ?_; rintro e w' ⟨rfl, rfl⟩)
    go_ret2
    exact Li2.nil Hr.out (Below.refl _ _)
  · cases hB : isNat b
    · have Hr := Lib.hid (show negF a b = ([], 2) by rw [Hd.out, hA, hB]; rfl)
      go_enter Try.func14, Try.ntmps14
      go_wp2_with (go_at_call 24; refine (l01Natural_any _ _).mono ?_; rintro e w' ⟨rfl, rfl⟩)
      go_ret2
      exact Li2.nil Hr.out (Below.refl _ _)
    · have ba := isNat_true.1 hA
      have bb := isNat_true.1 hB
      by_cases hab : b < a
      · by_cases hg : gcdI a b = 1
        · have Hr := Lib.hid (show negF a b = negOut (nf 1000 a.toNat b.toNat) by rw [Hd.out, hA, hB, decide_eq_true hab, hg]; rfl)
          clear Hd
          obtain ⟨x0, rfl⟩ := Int.eq_ofNat_of_zero_le (show 0 ≤ a by omega)
          obtain ⟨y0, rfl⟩ := Int.eq_ofNat_of_zero_le (show 0 ≤ b by omega)
          have Hg := Lib.hid hg; clear hg
          go_enter Try.func14, Try.ntmps14
          go_wp2_with (go_at_call 24; refine (l01Natural_any _ _).mono ?_; rintro e w' ⟨rfl, rfl⟩)
          refine (l01Gcd_any _ _ _ (by omega) (by omega) (by omega) (by omega)).mono ?_
          rintro e w1 ⟨rfl, rfl⟩
          rw [Hg.out]
          go_wp2_with fail
          have hown0 : (w.alloc (.cells #[] 2)).ownsRow w.heap.size 2 1 (.slice (some ⟨w.heap.size, 0, none⟩) 0 0) ([] : List Int).length (([] : List Int).map (Value.int .i64)) := World.ownsRow_lit w #[] 0 (Nat.le_refl _) (by decide) rfl
          have hbe0 : Below w.heap.size w (w.alloc (.cells #[] 2)) := (Below.refl _ _).alloc (Nat.le_refl _) _
          have Hr2 : Hid (negF (x0 : Int) (y0 : Int) = negOut (nf 1000 x0 y0)) := Lib.hid (by rw [Hr.out]; rfl)
          clear Hr hA hB Hg
          go_loopw [0, 1, 6] (fun s t v wr => ∃ (x y : Nat) (acc : List Int), s = .int .i64 x ∧ t = .int .i64 y ∧ x ≤ 1000000000 ∧ y < x ∧ acc.length ≤ 1000 ∧ Hid ((nf (1000 - acc.length) x y).map (acc ++ ·) = nf 1000 x0 y0) ∧
              wr.ownsRow w.heap.size 2 1 v acc.length (acc.map (Value.int .i64)) ∧ Below w.heap.size w wr) (fun _ t _ _ => (intOf t).toNat)
          case atStart => exact ⟨x0, y0, [], rfl, rfl, by omega, by omega, by simp, Lib.hid (by simp), hown0, hbe0⟩
          case round =>
            clear hown0 hbe0
            obtain ⟨x, y, acc, rfl, rfl, hx, hyx, hacc, hnf, hown, hbe⟩ := hrel
            obtain ⟨A, cap, rfl, hcap, hcapm⟩ := own_shape hown
            by_cases hy : 0 < y
            · obtain ⟨c1, c2⟩ := ceilN_spec x y hy
              have hq := ceilN_cast x y hy
              by_cases hfull : acc.length = 1000
              · have Hres := Lib.hid (show negF (x0 : Int) (y0 : Int) = ([], 3) by
                  rw [Hr2.out, ← hnf.out, hfull, nf_end x y hy]; rfl)
                have hge : 1000 ≤ acc.length := by omega
                clear hfull
                generalize ceilN x y = c at *
                go_wp2_with (at_builtin; refine wp_append_int rfl _ _ rfl w.heap.size _ acc rfl (hown.alloc _) wr.heap.size c 1 rfl (by simp) (by omega) (by have := hbe.size; simp; omega) ?_)
                intro v' w2 hown2 hgrow
                have hbe2 := below_append hbe hbe.size hown (Nat.le_refl _) hgrow
                obtain ⟨m, hm⟩ : ∃ m, m = acc.length + 1 := ⟨_, rfl⟩
                have hown3 : w2.ownsRow w.heap.size 2 1 v' m ((acc ++ [(c : Int)]).map (Value.int .i64)) := by rw [hm]; simpa using hown2
                obtain ⟨A2, cap2, rfl, hcap2, hcapm2⟩ := own_shape hown3
                have hm1 : 1000 < m := by omega
                clear hown hgrow hown2 hown3 hq c1 c2 hm
                go_wp2_with fail
                go_ret2
                exact Li2.nil Hres.out hbe2
              · have hlt : acc.length < 1000 := by omega
                have Hstep := Lib.hid (show (nf (1000 - (acc ++ [(ceilN x y : Int)]).length) y (ceilN x y * y - x)).map ((acc ++ [(ceilN x y : Int)]) ++ ·) = nf 1000 x0 y0 by
                  rw [← hnf.out, show 1000 - acc.length = (999 - acc.length) + 1 by omega, nf_acc acc _ x y hy]
                  simp)
                clear hfull
                generalize ceilN x y = c at *
                have hp1 : (x : Int) ≤ (c : Int) * (y : Int) := by exact_mod_cast c1
                have hp2 : (c : Int) * (y : Int) < (x : Int) + (y : Int) := by exact_mod_cast c2
                go_wp2_with (at_builtin; refine wp_append_int rfl _ _ rfl w.heap.size _ acc rfl (hown.alloc _) wr.heap.size c 1 rfl (by simp) (by omega) (by have := hbe.size; simp; omega) ?_)
                intro v' w2 hown2 hgrow
                have hbe2 := below_append hbe hbe.size hown (Nat.le_refl _) hgrow
                obtain ⟨m, hm⟩ : ∃ m, m = acc.length + 1 := ⟨_, rfl⟩
                have hown3 : w2.ownsRow w.heap.size 2 1 v' m ((acc ++ [(c : Int)]).map (Value.int .i64)) := by rw [hm]; simpa using hown2
                obtain ⟨A2, cap2, rfl, hcap2, hcapm2⟩ := own_shape hown3
                have hm1 : m ≤ 1000 := by omega
                have Hm := Lib.hid hm; have Hown3 := Lib.hid hown3; have C1 := Lib.hid c1
                clear hown hgrow hq c2 c1 hown2 hown3 hm
                go_wp2
                go_roundw
                case rel =>
                  refine ⟨y, c * y - x, acc ++ [(c : Int)], rfl, ?_, by omega, by omega, by simp; omega, Hstep, ?_, hbe2⟩
                  · congr 1; rw [Int.natCast_sub C1.out, Int.natCast_mul]
                  · have e := Hown3.out
                    rw [Hm.out] at e ⊢
                    simpa using e
                case measure => simp [intOf]; omega
            · have hy0 : y = 0 := by omega
              have Hres := Lib.hid (show negF (x0 : Int) (y0 : Int) = (acc, 0) by
                rw [Hr2.out, ← hnf.out, hy0, nf_zero]; simp [negOut])
              clear hy0
              go_wp2_with fail
              go_ret2
              refine ⟨.slice A acc.length cap, by rw [Hres.out]; rfl, ?_, hbe⟩
              rw [Hres.out]
              exact Ow.of_own hown
        · have Hr := Lib.hid (show negF a b = ([], 5) by rw [Hd.out, hA, hB, decide_eq_true hab, if_neg hg]; rfl)
          have hg1 : (gcdI a b != 1) = true := by rw [bne_iff_ne]; exact hg
          clear hg
          go_enter Try.func14, Try.ntmps14
          go_wp2_with (go_at_call 24; refine (l01Natural_any _ _).mono ?_; rintro e w' ⟨rfl, rfl⟩)
          refine (l01Gcd_any _ _ _ (by omega) (by omega) (by omega) (by omega)).mono ?_
          rintro e w1 ⟨rfl, rfl⟩
          go_wp2_with fail
          go_ret2
          exact Li2.nil Hr.out (Below.refl _ _)
      · have Hr := Lib.hid (show negF a b = ([], 2) by rw [Hd.out, hA, hB, decide_eq_false hab]; rfl)
        go_enter Try.func14, Try.ntmps14
        go_wp2_with (go_at_call 24; refine (l01Natural_any _ _).mono ?_; rintro e w' ⟨rfl, rfl⟩)
        go_ret2
        exact Li2.nil Hr.out (Below.refl _ _)
end WA
end Go.Proofs.Ythnpcjjdckpmiaa
