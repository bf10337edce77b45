/-
  WALKS, DRAWS: polynomials.
-/
import Derived.Test.YtogkblncdpbhnaaWlkFA
import Derived.Test.YtogkblncdpbhnaaWlkB4
namespace Go.Proofs.Ytogkblncdpbhnaa
open Go.RowKit
set_option linter.unusedVariables false
namespace WF
open K Pl WA WB
set_option maxHeartbeats 3200000 in
theorem l02Draw_any (B b : Nat) (most : Int) (w : World) (h : Src w B b) (hm : 0 ≤ most ∧ most ≤ 100) :
    Calls Try.prog 48 #[.pointer (some ⟨b, 0, none⟩), .int .i64 most] w fun e w' => ∃ v xs, e = .returned v ∧ Ow w' w.heap.size w'.heap.size v xs ∧ xs.length ≤ 200 ∧ Dr B b w w' := by
  have hbw := h.here
  have own0 := Lib.hid (World.ownsRow_lit (base := w.heap.size) (e := 2) (size := 1) w #[] 0 (Nat.le_refl _) (by unfold maxLen; omega) rfl)
  have hs0 := Lib.hid (fun o => Src.al h o)
  have hc0 := Lib.hid (fun o => Chg.al (lo := b) (hi := b + 1) w o)
  go_enter Try.func48, Try.ntmps48
  go_wp2_with fail
  refine (l01Next_any B b (most + 2) _ (hs0.out _) (by omega)).mono ?_
  rintro e w1 ⟨r1, rfl, hr1, hs1, hc1⟩
  have b1 := hr1.1; have b1' := hr1.2.1 (by omega)
  obtain ⟨q0, rfl⟩ := Int.eq_ofNat_of_zero_le b1
  have hq0 : q0 ≤ 101 := by omega
  have own1 := Lib.hid (own_dr own0.out hc1 hbw)
  have c1 := (hc0.out _).trans hc1
  clear hr1 hc1 own0
  go_wp2_with fail
  go_loopw [5, 6] (fun l k wr => ∃ (q m : Nat) (A : Option Addr) (c : Nat) (xs : List Int), k = .int .i64 (q : Int) ∧ l = .slice A m c ∧ m + q ≤ 101 ∧ Hid (wr.ownsRow w.heap.size 2 1 (.slice A m c) m (xs.map (Value.int .i64))) ∧ Src wr B b ∧ Chg b (b + 1) w wr) (fun _ k _ => (intOf k).toNat)
  case atStart => exact ⟨q0, 0, _, 0, [], rfl, rfl, by omega, own1, hs1, c1⟩
  case round =>
    clear own1 hs1 c1
    obtain ⟨q, m, A, c, xs, rfl, rfl, hmq, hown, hs, hc⟩ := hrel
    have hsz := hc.size
    obtain ⟨hmc, hcm⟩ : m ≤ c ∧ c ≤ 9223372036854775807 := by
      obtain ⟨A9, c9, e, h1, h2⟩ := own_shape hown.out
      cases e; exact ⟨h1, h2⟩
    have hlx : xs.length = m := by have := hown.out.1; simpa using this
    have Hlx := Lib.hid hlx
    clear hlx
    by_cases hq : 0 < q
    · have hq' : (0 : Int) < (q : Int) := by omega
      have hqs : (q : Int) - 1 = ((q - 1 : Nat) : Int) := by omega
      go_wp2_with fail
      refine (l01Next_any B b 7 _ hs (by omega)).mono ?_
      rintro e w4 ⟨r4, rfl, hr4, hs4, hc4⟩
      have b4 := hr4.1; have b4' := hr4.2.1 (by omega)
      have own4 := Lib.hid (own_dr hown.out hc4 hbw)
      have c4 := hc.trans hc4
      clear hr4 hc4 hown hs hc
      go_wp2_with fail
      refine (l01Next_any B b 41 _ hs4 (by omega)).mono ?_
      rintro e w5 ⟨r5, rfl, hr5, hs5, hc5⟩
      have b5 := hr5.1; have b5' := hr5.2.1 (by omega)
      have own5 := Lib.hid (own_dr own4.out hc5 hbw)
      have c5 := c4.trans hc5
      clear hr5 hc5 own4 hs4 c4
      go_wp2_with fail
      refine (l01Pick_any B b w5.heap.size 5 [0, 1, -1, r4 - 3, r5 - 20] _ (Src.al hs5 _) (by omega) (by omega) (lit_own hs5.here _ 5 rfl (by omega))).mono ?_
      rintro e w6 ⟨r6, rfl, hr6, hs6, hc6⟩
      have own6 := Lib.hid (own_dr (own5.out.alloc _) hc6 hbw)
      have c6 := (c5.trans (Chg.al _ _)).trans hc6
      clear hr6 hc6 own5 hs5 c5
      have hs6z := c6.size
      go_wp2_with (at_builtin; refine wp_append_i rfl _ _ rfl w.heap.size _ m xs rfl (own6.out.alloc _) w6.heap.size r6 1 rfl (by simp) (by omega) (by simp; omega) ?_)
      intro g' cap' w7 hown7 hgrow hat hlt7
      have c7 := chg_grow c6 _ hgrow (fun k e => (own6.out.lt k e).1)
      have hs7 := src_grow (lo := w.heap.size) hs6 _ hgrow hbw (fun k e => (own6.out.lt k e).1)
      have own7 := Lib.hid (show w7.ownsRow w.heap.size 2 1 (.slice (some ⟨g', 0, none⟩) (m + 1) cap') (m + 1) ((xs ++ [r6]).map (Value.int .i64)) by simpa using hown7)
      clear own6 c6 hs6 hgrow hat hown7
      go_wp2
      go_roundw
      case rel => exact ⟨q - 1, m + 1, _, _, _, by go_num, rfl, by omega, own7, hs7, c7⟩
      case measure => first | (simp [intOf]; done) | (simp [intOf]; omega)
    · have hq' : ¬ (0 : Int) < (q : Int) := by omega
      have hi := Lib.hid (Ow.of_own (n := m) hown.out).is
      go_wp2_with fail
      refine (l02Trim_any _ _ xs _ hi.out (Nat.le_refl _) (by rw [Hlx.out]; omega)).mono ?_
      rintro e w8 ⟨v8, rfl, o8, hb8⟩
      obtain ⟨A8, c8, e8, _, _⟩ := o8.shape
      subst e8
      have hs8 := hs.later hb8
      have hc8 := hc.trans ((Chg.of_below hb8).wide (lo' := b) (hi' := b + 1) (.inr rfl) (by omega))
      have o9 := Lib.hid (o8.wide hsz (Nat.le_refl _))
      have hl9 : (trimL xs).length ≤ 200 := by have := trimL_len xs; rw [Hlx.out] at this; omega
      clear hs hc o8 hb8 hi hown
      go_wp2
      go_ret
      first | exact ⟨_, _, rfl, o9.out, hl9, hs8, hc8⟩ | exact ⟨_, rfl, _, o9.out, hl9, hs8, hc8⟩
set_option maxHeartbeats 3200000 in
theorem l02Spoil_any (B b : Nat) (w : World) (h : Src w B b) :
    Calls Try.prog 23 #[.pointer (some ⟨b, 0, none⟩)] w fun e w' => ∃ v xs, e = .returned v ∧ Ow w' w.heap.size w'.heap.size v xs ∧ Dr B b w w' := by
  have hbw := h.here
  have hs0 := Lib.hid (Src.al h (.cells #[.int .i64 3, .int .i64 5, .int .i64 8] 2))
  have hc0 := Lib.hid (Chg.al (lo := b) (hi := b + 1) w (.cells #[.int .i64 3, .int .i64 5, .int .i64 8] 2))
  go_enter Try.func23, Try.ntmps23
  go_wp2_with fail
  refine (l01Pick_any B b w.heap.size 3 [3, 5, 8] _ hs0.out (by omega) (by omega) (lit_own hbw _ 3 rfl (by omega))).mono ?_
  rintro e w1 ⟨p, rfl, hp, hs1, hc1⟩
  have hp2 : 0 ≤ p ∧ p ≤ 100 := by simp at hp; omega
  have c1 := hc0.out.trans hc1
  have z1 := c1.size
  clear hp hc1 hs0 hc0
  go_wp2_with fail
  refine (l02Draw_any B b p _ hs1 hp2).mono ?_
  rintro e w2 ⟨v2, xs, rfl, o2, hl2, hs2, hc2⟩
  have c2 := c1.trans hc2
  obtain ⟨A, c, rfl, hnc, hcm⟩ := o2.shape
  obtain ⟨n, Hn⟩ : ∃ n, Hid (xs.length = n) := ⟨_, Lib.hid rfl⟩
  have O2 := Lib.hid (o2.wide z1 (Nat.le_refl _))
  have z2 := c2.size
  rw [Hn.out] at hl2 hnc O2 ⊢
  clear hs1 c1 hc2 o2
  go_wp2_with fail
  refine (l01Next_any B b 30 _ hs2 (by omega)).mono ?_
  rintro e w3 ⟨r3, rfl, hr3, hs3, hc3⟩
  have c3 := c2.trans hc3
  have O3 := Lib.hid ((O2.out.keep hc3 (.inr (by omega))).wide (Nat.le_refl _) hc3.size)
  have z3 := c3.size
  clear hr3 hs2 hc3 c2 O2
  by_cases h0 : r3 = 0
  · have h0' : (r3 == 0) = true := by simp [h0]
    clear h0
    have hrow : w3.ownsRow w.heap.size 2 1 (.slice A n c) n (xs.map (Value.int .i64)) := by have h := O3.out.1; rw [Hn.out] at h; exact h
    go_wp2_with (at_builtin; refine wp_append_i rfl _ _ rfl w.heap.size _ n xs rfl (hrow.alloc _) w3.heap.size 0 1 rfl (by simp) (by omega) (by simp; omega) ?_)
    intro g' cap' w7 hown7 hgrow hat hlt7
    have c7 := chg_grow c3 _ hgrow (fun k e => (hrow.lt k e).1)
    have hs7 := src_grow (lo := w.heap.size) hs3 _ hgrow hbw (fun k e => (hrow.lt k e).1)
    have hfin := Lib.hid (Ow.of_own (n := n + 1) (xs := xs ++ [0]) (by simpa using hown7))
    clear hown7 hgrow hat hrow O3
    go_wp2
    go_ret
    first | exact ⟨_, _, rfl, hfin.out, hs7, c7⟩ | exact ⟨_, rfl, ⟨_, hfin.out⟩, hs7, c7⟩ | exact ⟨_, rfl, _, hfin.out, hs7, c7⟩
  · have h0' : (r3 == 0) = false := by rw [beq_eq_false_iff_ne]; exact h0
    clear h0
    by_cases h1 : r3 = 1
    · have h1' : (r3 == 1) = true := by simp [h1]
      clear h1
      go_wp2_with fail
      refine (l01Pick_any B b w3.heap.size 4 [1000000000000, -1000000000000, 1000000000001, -4611686018427387904] _ (Src.al hs3 _) (by omega) (by omega) (lit_own hs3.here _ 4 rfl (by omega))).mono ?_
      rintro e w4 ⟨r4, rfl, hr4, hs4, hc4⟩
      have c4 := (c3.trans (Chg.al _ _)).trans hc4
      have z4 := c4.size
      have hrow : w4.ownsRow w.heap.size 2 1 (.slice A n c) n (xs.map (Value.int .i64)) := by have h := (((O3.out.alloc _).keep hc4 (.inr (by omega)))).1; rw [Hn.out] at h; exact h
      clear hr4 hc4 hs3 c3 O3
      go_wp2_with (at_builtin; refine wp_append_i rfl _ _ rfl w.heap.size _ n xs rfl (hrow.alloc _) w4.heap.size r4 1 rfl (by simp) (by omega) (by simp; omega) ?_)
      intro g' cap' w7 hown7 hgrow hat hlt7
      have c7 := chg_grow c4 _ hgrow (fun k e => (hrow.lt k e).1)
      have hs7 := src_grow (lo := w.heap.size) hs4 _ hgrow hbw (fun k e => (hrow.lt k e).1)
      have hfin := Lib.hid (Ow.of_own (n := n + 1) (xs := xs ++ [r4]) (by simpa using hown7))
      clear hown7 hgrow hat hrow
      go_wp2
      go_ret
      first | exact ⟨_, _, rfl, hfin.out, hs7, c7⟩ | exact ⟨_, rfl, ⟨_, hfin.out⟩, hs7, c7⟩ | exact ⟨_, rfl, _, hfin.out, hs7, c7⟩
    · have h1' : (r3 == 1) = false := by rw [beq_eq_false_iff_ne]; exact h1
      clear h1
      by_cases h2 : r3 = 2
      · have h2' : (r3 == 2) = true := by simp [h2]
        clear h2
        obtain ⟨i0, hi, hz0, hz1, hz2⟩ := info_parts info64
        have Hi := Lib.hid hi; have Hz0 := Lib.hid hz0; have Hz1 := Lib.hid hz1; have Hz2 := Lib.hid hz2
        clear hi hz0 hz1 hz2
        go_wp2_with fail
        refine (l01Pick_any B b w3.heap.size 3 [1999, 2000, 2001] _ (Src.al hs3 _) (by omega) (by omega) (lit_own hs3.here _ 3 rfl (by omega))).mono ?_
        rintro e w4 ⟨r4, rfl, hr4, hs4, hc4⟩
        have c4 := (c3.trans (Chg.al _ _)).trans hc4
        have z4 := c4.size
        have hr4b : 1999 ≤ r4 ∧ r4 ≤ 2001 := by simp at hr4; omega
        obtain ⟨N, rfl⟩ := Int.eq_ofNat_of_zero_le (show 0 ≤ r4 by omega)
        clear hr4 hc4 hs3 c3 O3
        go_wp2_with (at_make; refine wpList_make_full _ rfl _ _ 24 rfl w4.heap.size 2 i0 (.int .i64 0) 1 Try.underlying24 Hi.out Hz0.out Hz1.out _ _ _ _ N rfl rfl rfl rfl ?mkb ?mkc ?mkd ?_)
        case mkb => rw [Hz2.out]; omega
        case mkc => unfold maxLen; omega
        case mkd => simp
        intro w5 hown hgrow5
        have hrow : w5.ownsRow w4.heap.size 2 1 (.slice (some ⟨w4.heap.size, 0, none⟩) N N) N ((List.replicate N (0 : Int)).map (Value.int .i64)) := by
          rw [List.map_replicate]
          have e : (madeCells (Value.int IntKind.i64 0).cells (N * 1)).toList = List.replicate N (Value.int .i64 0) := by
            rw [Nat.mul_one]; exact toList_madeCells_one _ N
          rw [← e, Nat.mul_one]; exact hown
        have hb5 : Below w4.heap.size w4 w5 := (Below.refl _ _).grown hgrow5 (Nat.le_refl _) (by simp)
        have hs5 := hs4.later hb5
        have c5 := c4.trans ((Chg.of_below hb5).wide (lo' := b) (hi' := b + 1) (.inr rfl) (by omega))
        have z5 := hb5.size
        clear hown hgrow5 hb5 hs4 c4
        go_wp2_with (at_builtin; refine wp_append_i rfl _ _ rfl w4.heap.size _ N (List.replicate N 0) rfl (hrow.alloc _) w5.heap.size 1 1 rfl (by simp) (by omega) (by simp; omega) ?_)
        intro g' cap' w7 hown7 hgrow hat hlt7
        have c7 := chg_grow c5 _ hgrow (fun k e => by have := (hrow.lt k e).1; omega)
        have hs7 := src_grow (lo := w.heap.size) hs5 _ hgrow hbw (fun k e => by have := (hrow.lt k e).1; omega)
        have hfin := Lib.hid ((Ow.of_own (n := N + 1) (xs := List.replicate N 0 ++ [1]) (lo := w4.heap.size) (by simpa using hown7)).wide (lo' := w.heap.size) z4 (Nat.le_refl _))
        clear hown7 hgrow hat hrow
        go_wp2
        go_ret
        first | exact ⟨_, _, rfl, hfin.out, hs7, c7⟩ | exact ⟨_, rfl, ⟨_, hfin.out⟩, hs7, c7⟩ | exact ⟨_, rfl, _, hfin.out, hs7, c7⟩
      · have h2' : (r3 == 2) = false := by rw [beq_eq_false_iff_ne]; exact h2
        clear h2
        go_wp2
        go_ret
        first | exact ⟨_, _, rfl, O3.out, hs3, c3⟩ | exact ⟨_, rfl, ⟨_, O3.out⟩, hs3, c3⟩ | exact ⟨_, rfl, _, O3.out, hs3, c3⟩
end WF
end Go.Proofs.Ytogkblncdpbhnaa
