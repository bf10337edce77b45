/-
  WALKS, DRAWS: pairs of polynomials.
-/
import Derived.Test.YtdcjdnfopohiaaaWlkF11
import Derived.Test.YtdcjdnfopohiaaaWlkB8
namespace Go.Proofs.Ytdcjdnfopohiaaa
open Go.RowKit
set_option linter.unusedVariables false
namespace WF
open K Pl WA WB
/-- Two lists that read. -/
def Two (w : World) (e : Ending) (w' : World) : Prop := ∃ v1 v2 xs ys, e = .returned (.tuple #[v1, v2]) ∧ Is w' w'.heap.size v1 xs ∧ Is w' w'.heap.size v2 ys ∧ Below w.heap.size w w'
set_option maxHeartbeats 800000 in
theorem DrawAddPolynomials_any (B : Nat) (v : Value) (n : Nat) (w : World) (h : IsY w B v n) (hB : B ≤ w.heap.size) : Calls Try.prog 15 #[v] w (Two w) := by
  go_enter Try.func15, Try.ntmps15
  go_wp2_with fail
  refine (l01From_any B v n _ h hB).mono ?_
  rintro e w1 ⟨rfl, hs1, hb1⟩
  have z1 := hb1.size
  have hbw := hs1.here
  go_wp2_with fail
  refine (l02Spoil_any B w.heap.size _ hs1).mono ?_
  rintro e w2 ⟨v2, xs, rfl, o2, hs2, hc2⟩
  have c2 := hb1.trans (hc2.below z1 (.inl (Nat.le_refl _)))
  have z2 := hc2.size
  obtain ⟨A2, c2', e2, _, _⟩ := o2.shape
  subst e2
  have O2 := Lib.hid o2
  clear hb1 hc2 hs1 o2
  go_wp2_with fail
  refine (l02Spoil_any B w.heap.size _ hs2).mono ?_
  rintro e w3 ⟨v3, ys, rfl, o3, hs3, hc3⟩
  have c3 := c2.trans (hc3.below (by omega) (.inl (Nat.le_refl _)))
  obtain ⟨A3, c3', e3, _, _⟩ := o3.shape
  subst e3
  have i2 := Lib.hid (O2.out.keep hc3 (.inr (by omega))).is
  have i3 := Lib.hid o3.is
  clear hc3 hs2 hs3 o3 O2 c2
  go_wp2
  go_ret2
  exact ⟨_, _, xs, ys, rfl, i2.out, i3.out, c3⟩
theorem DrawMultiplyPolynomials_any (B : Nat) (v : Value) (n : Nat) (w : World) (h : IsY w B v n) (hB : B ≤ w.heap.size) : Calls Try.prog 5 #[v] w (Two w) := by
  go_enter Try.func5, Try.ntmps5
  go_wp2_with fail
  refine (DrawAddPolynomials_any B v n _ h hB).mono ?_
  rintro e w1 ⟨v1, v2, xs, ys, rfl, i1, i2, hb⟩
  go_wp2
  go_ret2
  exact ⟨_, _, xs, ys, rfl, i1, i2, hb⟩
set_option maxHeartbeats 1600000 in
theorem DrawDividePolynomials_any (B : Nat) (v : Value) (n : Nat) (w : World) (h : IsY w B v n) (hB : B ≤ w.heap.size) : Calls Try.prog 19 #[v] w (Two w) := by
  go_enter Try.func19, Try.ntmps19
  go_wp2_with fail
  refine (l01From_any B v n _ h hB).mono ?_
  rintro e w1 ⟨rfl, hs1, hb1⟩
  have z1 := hb1.size
  have hbw := hs1.here
  go_wp2_with fail
  refine (l02Spoil_any B w.heap.size _ hs1).mono ?_
  rintro e w2 ⟨v2, xs, rfl, o2, hs2, hc2⟩
  have c2 := hb1.trans (hc2.below z1 (.inl (Nat.le_refl _)))
  have z2 := hc2.size
  obtain ⟨A2, c2', e2, _, _⟩ := o2.shape
  subst e2
  have O2 := Lib.hid o2
  clear hb1 hc2 hs1 o2
  go_wp2_with fail
  refine (l02Spoil_any B w.heap.size _ hs2).mono ?_
  rintro e w3 ⟨v3, ys, rfl, o3, hs3, hc3⟩
  have c3 := c2.trans (hc3.below (by omega) (.inl (Nat.le_refl _)))
  have z3 := hc3.size
  obtain ⟨A3, c3', e3, _, _⟩ := o3.shape
  subst e3
  have O2' := Lib.hid (O2.out.keep hc3 (.inr (by omega)))
  have O3 := Lib.hid o3
  have i2 := Lib.hid O2'.out.is
  have i3 := Lib.hid O3.out.is
  clear hc3 hs2 o3 O2 c2
  have hend : ∀ w', Chg w.heap.size (w.heap.size + 1) w3 w' → Is w' w'.heap.size (.slice A2 xs.length c2') xs ∧ Is w' w'.heap.size (.slice A3 ys.length c3') ys ∧ Below w.heap.size w w' := fun w' hc =>
    ⟨(O2'.out.keep hc (.inr (by omega))).is, (O3.out.keep hc (.inr (by omega))).is, c3.trans (hc.below (by omega) (.inl (Nat.le_refl _)))⟩
  have Hend := Lib.hid hend
  clear hend O2' O3
  obtain ⟨n2, H2⟩ : ∃ n2, n2 = xs.length := ⟨_, rfl⟩
  obtain ⟨n3, H3⟩ : ∃ n3, n3 = ys.length := ⟨_, rfl⟩
  rw [← H2] at i2 Hend ⊢
  rw [← H3] at i3 Hend ⊢
  clear H2 H3
  cases hp : isPoly xs
  · go_wp2_with fail
    refine (l02Is_any _ _ xs _ i2.out (Nat.le_refl _)).mono ?_
    rintro e w' ⟨rfl, rfl⟩
    rw [hp]
    go_wp2
    go_ret2
    exact ⟨_, _, xs, ys, rfl, i2.out, i3.out, c3⟩
  · cases hq : isPoly ys
    · go_wp2_with fail
      refine (l02Is_any _ _ xs _ i2.out (Nat.le_refl _)).mono ?_
      rintro e w' ⟨rfl, rfl⟩
      rw [hp]
      go_wp2_with fail
      refine (l02Is_any _ _ ys _ i3.out (Nat.le_refl _)).mono ?_
      rintro e w' ⟨rfl, rfl⟩
      rw [hq]
      go_wp2
      go_ret2
      exact ⟨_, _, xs, ys, rfl, i2.out, i3.out, c3⟩
    · have Hp := Lib.hid hp
      have Hq := Lib.hid hq
      go_wp2_with fail
      refine (l02Is_any _ _ xs _ i2.out (Nat.le_refl _)).mono ?_
      rintro e w' ⟨rfl, rfl⟩
      rw [hp]
      go_wp2_with fail
      refine (l02Is_any _ _ ys _ i3.out (Nat.le_refl _)).mono ?_
      rintro e w' ⟨rfl, rfl⟩
      rw [hq]
      clear hp hq
      go_wp2_with fail
      refine (l01Next_any B w.heap.size 4 _ hs3 (by omega)).mono ?_
      rintro e w4 ⟨r4, rfl, hr4, hs4, hc4⟩
      obtain ⟨j2, j3, j4⟩ := Hend.out _ hc4
      have J2 := Lib.hid j2
      have J3 := Lib.hid j3
      have J4 := Lib.hid j4
      clear hr4 hc4 hs3 hs4 j2 j3 j4 i2 i3 c3 Hend
      by_cases h0 : 0 < r4
      · go_wp2_with fail
        refine (l02Product_any _ _ _ xs ys _ J2.out J3.out (Nat.le_refl _) Hp.out Hq.out).mono ?_
        rintro e w5 ⟨v5, rfl, o5, hb5⟩
        obtain ⟨A5, c5, e5, _, _⟩ := o5.shape
        subst e5
        have k5 := Lib.hid o5.is
        have k3 := Lib.hid ((J3.out.below hb5).more hb5.size)
        have k2 := Lib.hid ((J2.out.below hb5).more hb5.size)
        have c5' := Lib.hid (J4.out.trans (hb5.mono J4.out.size))
        obtain ⟨bb, hbb⟩ : ∃ bb, Hid (okb (prodP xs ys) = bb) := ⟨_, Lib.hid rfl⟩
        rw [hbb.out]
        clear hb5 o5 J2 J3 J4
        cases bb
        · go_wp2
          go_ret2
          exact ⟨_, _, xs, ys, rfl, k2.out, k3.out, c5'.out⟩
        · go_wp2
          go_ret2
          exact ⟨_, _, _, ys, rfl, k5.out, k3.out, c5'.out⟩
      · go_wp2
        go_ret2
        exact ⟨_, _, xs, ys, rfl, J2.out, J3.out, J4.out⟩
end WF
end Go.Proofs.Ytdcjdnfopohiaaa
