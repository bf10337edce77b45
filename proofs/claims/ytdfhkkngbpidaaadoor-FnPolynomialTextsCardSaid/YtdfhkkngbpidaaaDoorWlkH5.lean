/-
  WALKS, DRAWS: a polynomial drawn from a source whose number of bytes is told.
-/
import Derived.Test.YtdfhkkngbpidaaaDoorWlkH2
import Derived.Test.YtdfhkkngbpidaaaDoorWlkF11
namespace Go.Proofs.YtdfhkkngbpidaaaDoor
open Go.RowKit
set_option linter.unusedVariables false
namespace WF
open K Pl WA WB
/-- The source of a draw with the number of its bytes. -/
def SrcN (w : World) (B b n : Nat) : Prop := ∃ t h, SrcA w B b n t h
theorem SrcN.here {w : World} {B b n : Nat} (h : SrcN w B b n) : b < w.heap.size := by obtain ⟨t, x, s⟩ := h; exact s.here
theorem SrcN.al {w : World} {B b n : Nat} (h : SrcN w B b n) (o : Obj) : SrcN (w.alloc o) B b n := by obtain ⟨t, x, s⟩ := h; exact ⟨t, x, s.al o⟩
theorem SrcN.later {w w' : World} {B b n : Nat} (h : SrcN w B b n) (hb : Below w.heap.size w w') : SrcN w' B b n := by obtain ⟨t, x, s⟩ := h; exact ⟨t, x, s.later hb⟩
theorem srcN_grow {b B lo n : Nat} {w6 w7 : World} {row : Option Nat} (h : SrcN w6 B b n) (o : Obj) (hg : (w6.alloc o).grownBy w7 row) (hb : b < lo) (hrow : ∀ k, row = some k → lo ≤ k) : SrcN w7 B b n := by
  obtain ⟨t, x, s⟩ := h
  have h2 := s.al o
  exact ⟨t, x, h2.keep (Chg.of_grown (lo := lo) (hi := w7.heap.size + lo + (row.getD 0) + 1) hg (fun k e => ⟨hrow k e, by rw [e]; simp; omega⟩)) (.inl hb) (.inl (by have := h2.lt; omega))⟩
/-- What a draw leaves. -/
def DrN (B b n : Nat) (w w' : World) : Prop := SrcN w' B b n ∧ Chg b (b + 1) w w'
theorem l01Next_n (B b nn : Nat) (m : Int) (w : World) (h : SrcN w B b nn) (hn : m ≤ 9223372036854775807) :
    Calls Tryd.prog 30 #[.pointer (some ⟨b, 0, none⟩), .int .i64 m] w fun e w' => ∃ r, e = .returned (.int .i64 r) ∧ NxR m r ∧ SrcN w' B b nn ∧ Chg b (b + 1) w w' := by
  by_cases hn1 : m < 1
  · go_enter Tryd.func30, Tryd.ntmps30
    go_wp2
    go_ret
    exact ⟨0, rfl, ⟨Int.le_refl _, fun h => by omega, fun _ => rfl⟩, h, Chg.refl⟩
  · obtain ⟨t, x, s⟩ := h
    refine (l01Next_at B b nn t x m w s (by omega) hn).mono ?_
    rintro e w' ⟨r, rfl, ⟨h0, h1⟩, _, s', hc⟩
    exact ⟨r, rfl, ⟨h0, fun _ => h1, fun h => by omega⟩, ⟨_, _, s'⟩, hc⟩
set_option maxHeartbeats 800000 in
theorem l01Pick_n (B b nn g n : Nat) (xs : List Int) (w : World) (h : SrcN w B b nn) (hn1 : 1 ≤ n) (hn9 : n ≤ 1000) (hown : w.ownsRow (b + 1) 2 1 (.slice (some ⟨g, 0, none⟩) n n) n (xs.map (Value.int .i64))) :
    Calls Tryd.prog 35 #[.pointer (some ⟨b, 0, none⟩), .slice (some ⟨g, 0, none⟩) n n] w fun e w' => ∃ r, e = .returned (.int .i64 r) ∧ r ∈ xs ∧ DrN B b nn w w' := by
  have hlen : xs.length = n := by have := hown.1; simpa using this
  go_enter Tryd.func35, Tryd.ntmps35
  go_wp2_with fail
  refine (l01Next_n B b nn (n : Int) _ h (by omega)).mono ?_
  rintro e w1 ⟨r, rfl, hr, hs, hc⟩
  have hr1 := hr.1
  have hr2 := hr.2.1 (by omega)
  obtain ⟨k, rfl⟩ := Int.eq_ofNat_of_zero_le hr1
  have hk : k < n := by omega
  have hown1 := own_keep (hi := w.heap.size) hown (fun q hq => (hown.lt q hq).2) hc (.inr (Nat.le_refl _))
  have hc1 : w1.cell? ⟨g, k, none⟩ = some (.int .i64 (gx xs k)) := by
    have := hown1.cellAt k (by omega)
    rwa [map_gx xs k (by omega)] at this
  have hi : 0 ≤ (k : Int) ∧ (k : Int) < (n : Int) := by omega
  clear hr hr1 hr2
  go_wp2
  go_ret
  exact ⟨_, rfl, gx_mem xs k (by omega), hs, hc⟩
theorem isCoef_small (r : Int) (h1 : -1000 ≤ r) (h2 : r ≤ 1000) : isCoef r = true := by unfold isCoef; exact inR_true.2 (by omega)
set_option maxHeartbeats 3200000 in
theorem l02Draw_n (B b nn : Nat) (most : Int) (w : World) (h : SrcN w B b nn) (hm : 0 ≤ most ∧ most ≤ 100) :
    Calls Tryd.prog 29 #[.pointer (some ⟨b, 0, none⟩), .int .i64 most] w fun e w' => ∃ v xs, e = .returned v ∧ Ow w' w.heap.size w'.heap.size v xs ∧ xs.length ≤ 200 ∧ isPoly xs = true ∧ DrN B b nn w w' := by
  have hbw := h.here
  have own0 := Lib.hid (World.ownsRow_lit (base := w.heap.size) (e := 2) (size := 1) w #[] 0 (Nat.le_refl _) (by unfold maxLen; omega) rfl)
  have hs0 := Lib.hid (fun o => SrcN.al h o)
  have hc0 := Lib.hid (fun o => Chg.al (lo := b) (hi := b + 1) w o)
  go_enter Tryd.func29, Tryd.ntmps29
  go_wp2_with fail
  refine (l01Next_n B b nn (most + 2) _ (hs0.out _) (by omega)).mono ?_
  rintro e w1 ⟨r1, rfl, hr1, hs1, hc1⟩
  have b1 := hr1.1; have b1' := hr1.2.1 (by omega)
  obtain ⟨q0, rfl⟩ := Int.eq_ofNat_of_zero_le b1
  have hq0 : q0 ≤ 101 := by omega
  have own1 := Lib.hid (own_dr own0.out hc1 hbw)
  have c1 := (hc0.out _).trans hc1
  clear hr1 hc1 own0
  go_wp2_with fail
  go_loopw [5, 6] (fun l k wr => ∃ (q m : Nat) (A : Option Addr) (c : Nat) (xs : List Int), k = .int .i64 (q : Int) ∧ l = .slice A m c ∧ m + q ≤ 101 ∧ Hid (xs.all isCoef = true) ∧ Hid (wr.ownsRow w.heap.size 2 1 (.slice A m c) m (xs.map (Value.int .i64))) ∧ SrcN wr B b nn ∧ Chg b (b + 1) w wr) (fun _ k _ => (intOf k).toNat)
  case atStart => exact ⟨q0, 0, _, 0, [], rfl, rfl, by omega, Lib.hid rfl, own1, hs1, c1⟩
  case round =>
    clear own1 hs1 c1
    obtain ⟨q, m, A, c, xs, rfl, rfl, hmq, Hco, hown, hs, hc⟩ := hrel
    have hsz := hc.size
    obtain ⟨hmc, hcm⟩ : m ≤ c ∧ c ≤ 9223372036854775807 := by
      obtain ⟨A9, c9, e, h1, h2⟩ := own_shape hown.out
      cases e; exact ⟨h1, h2⟩
    have hlx : xs.length = m := by have := hown.out.1; simpa using this
    have Hlx := Lib.hid hlx
    clear hlx
    by_cases hq : 0 < q
    · have hq' : (0 : Int) < (q : Int) := by omega
      have hqs : (q : Int) - 1 = ((q - 1 : Nat) : Int) := by omega
      go_wp2_with fail
      refine (l01Next_n B b nn 7 _ hs (by omega)).mono ?_
      rintro e w4 ⟨r4, rfl, hr4, hs4, hc4⟩
      have b4 := hr4.1; have b4' := hr4.2.1 (by omega)
      have own4 := Lib.hid (own_dr hown.out hc4 hbw)
      have c4 := hc.trans hc4
      clear hr4 hc4 hown hs hc
      go_wp2_with fail
      refine (l01Next_n B b nn 41 _ hs4 (by omega)).mono ?_
      rintro e w5 ⟨r5, rfl, hr5, hs5, hc5⟩
      have b5 := hr5.1; have b5' := hr5.2.1 (by omega)
      have own5 := Lib.hid (own_dr own4.out hc5 hbw)
      have c5 := c4.trans hc5
      clear hr5 hc5 own4 hs4 c4
      go_wp2_with fail
      refine (l01Pick_n B b nn w5.heap.size 5 [0, 1, -1, r4 - 3, r5 - 20] _ (SrcN.al hs5 _) (by omega) (by omega) (lit_own hs5.here _ 5 rfl (by omega))).mono ?_
      rintro e w6 ⟨r6, rfl, hr6, hs6, hc6⟩
      have Hco6 := Lib.hid (show (xs ++ [r6]).all isCoef = true by
        rw [List.all_append, Hco.out, List.all_cons, List.all_nil, Bool.and_true, Bool.true_and]
        exact isCoef_small r6 (by simp at hr6; omega) (by simp at hr6; omega))
      have own6 := Lib.hid (own_dr (own5.out.alloc _) hc6 hbw)
      have c6 := (c5.trans (Chg.al _ _)).trans hc6
      clear hr6 hc6 own5 hs5 c5
      have hs6z := c6.size
      go_wp2_with (at_builtin; refine wp_append_i rfl _ _ rfl w.heap.size _ m xs rfl (own6.out.alloc _) w6.heap.size r6 1 rfl (by simp) (by omega) (by simp; omega) ?_)
      intro g' cap' w7 hown7 hgrow hat hlt7
      have c7 := chg_grow c6 _ hgrow (fun k e => (own6.out.lt k e).1)
      have hs7 := srcN_grow (lo := w.heap.size) hs6 _ hgrow hbw (fun k e => (own6.out.lt k e).1)
      have own7 := Lib.hid (show w7.ownsRow w.heap.size 2 1 (.slice (some ⟨g', 0, none⟩) (m + 1) cap') (m + 1) ((xs ++ [r6]).map (Value.int .i64)) by simpa using hown7)
      clear own6 c6 hs6 hgrow hat hown7
      go_wp2
      go_roundw
      case rel => exact ⟨q - 1, m + 1, _, _, _, by go_num, rfl, by omega, Hco6, own7, hs7, c7⟩
      case measure => first | (simp [intOf]; done) | (simp [intOf]; omega)
    · have hq' : ¬ (0 : Int) < (q : Int) := by omega
      have hi := Lib.hid (Ow.of_own (n := m) hown.out).is
      go_wp2_with fail
      refine (l02Trim_any _ _ xs _ hi.out (Nat.le_refl _) (by rw [Hlx.out]; omega)).mono ?_
      rintro e w8 ⟨v8, rfl, o8, hb8⟩
      obtain ⟨A8, c8, e8, _, _⟩ := o8.shape
      subst e8
      have hs8 := hs.later hb8
      have hc8 := hc.trans ((Chg.of_below hb8).wide (lo' := b) (hi' := b + 1) (.inr rfl) (by omega))
      have o9 := Lib.hid (o8.wide hsz (Nat.le_refl _))
      have hl9 : (trimL xs).length ≤ 200 := by have := trimL_len xs; rw [Hlx.out] at this; omega
      have hp9 : isPoly (trimL xs) = true := by rw [trimL_isPoly xs (by rw [Hlx.out]; omega)]; exact Hco.out
      clear hs hc o8 hb8 hi hown
      go_wp2
      go_ret
      first | exact ⟨_, _, rfl, o9.out, hl9, hp9, hs8, hc8⟩ | exact ⟨_, rfl, _, o9.out, hl9, hp9, hs8, hc8⟩
end WF
end Go.Proofs.YtdfhkkngbpidaaaDoor
