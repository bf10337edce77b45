/-
  WALKS, DRAWS: parts of fractions, fractions' numbers.
-/
import Derived.Test.YthnpcjjdckpmiaaWlkF2
namespace Go.Proofs.Ythnpcjjdckpmiaa
open Go.RowKit
set_option linter.unusedVariables false
namespace WF
open K Pl WA
theorem own_dr {w w' : World} {b lo n : Nat} {e : TypeId} {s : Nat} {v : Value} {xs : List Value} (h : w.ownsRow lo e s v n xs) (hc : Chg b (b + 1) w w') (hb : b < lo) : w'.ownsRow lo e s v n xs :=
  own_keep (hi := w.heap.size) h (fun q hq => (h.lt q hq).2) hc (.inr hb)
theorem chg_grow {b : Nat} {w w6 w7 : World} {row : Option Nat} (h : Chg b (b + 1) w w6) (o : Obj) (hg : (w6.alloc o).grownBy w7 row) (hrow : ∀ k, row = some k → w.heap.size ≤ k) : Chg b (b + 1) w w7 := by
  have h2 := h.trans (Chg.al w6 o)
  exact ⟨hg.os.trans h2.os, hg.tape.trans h2.tape, hg.output.trans h2.output, Nat.le_trans h2.size hg.size, fun k hk hn => (hg.block k (Nat.lt_of_lt_of_le hk h2.size) (fun e => by have := hrow k e.symm; omega)).trans (h2.block k hk hn)⟩
theorem src_grow {b B lo : Nat} {w6 w7 : World} {row : Option Nat} (h : Src w6 B b) (o : Obj) (hg : (w6.alloc o).grownBy w7 row) (hb : b < lo) (hrow : ∀ k, row = some k → lo ≤ k) : Src w7 B b := by
  have h2 := Src.al h o
  exact h2.keep (Chg.of_grown (lo := lo) (hi := w7.heap.size + lo + (row.getD 0) + 1) hg (fun k e => ⟨hrow k e, by rw [e]; simp; omega⟩)) (.inl hb) (.inl (by have := h.lt; omega))
set_option maxHeartbeats 3200000 in
theorem l01Parts_any (B b : Nat) (least : Int) (w : World) (h : Src w B b) (hl : 0 ≤ least ∧ least ≤ 10) :
    Calls Try.prog 33 #[.pointer (some ⟨b, 0, none⟩), .int .i64 least] w fun e w' => ∃ v xs, e = .returned v ∧ Ow w' w.heap.size w'.heap.size v xs ∧ xs.length ≤ 65 ∧ Dr B b w w' := by
  have hbw := h.here
  have own0 := Lib.hid (World.ownsRow_lit (base := w.heap.size) (e := 2) (size := 1) w #[] 0 (Nat.le_refl _) (by unfold maxLen; omega) rfl)
  have hs0 := Lib.hid (fun o => Src.al h o)
  have hc0 := Lib.hid (fun o => Chg.al (lo := b) (hi := b + 1) w o)
  go_enter Try.func33, Try.ntmps33
  go_wp2_with fail
  refine (l01Next_any B b 5 _ (hs0.out _) (by omega)).mono ?_
  rintro e w1 ⟨r1, rfl, hr1, hs1, hc1⟩
  have b1 := hr1.1; have b1' := hr1.2.1 (by omega)
  have own1 := Lib.hid (own_dr own0.out hc1 hbw)
  have c1 := (hc0.out _).trans hc1
  clear hr1 hc1 own0
  go_wp2_with fail
  refine (l01Next_any B b 8 _ hs1 (by omega)).mono ?_
  rintro e w2 ⟨r2, rfl, hr2, hs2, hc2⟩
  have b2 := hr2.1; have b2' := hr2.2.1 (by omega)
  have own2 := Lib.hid (own_dr own1.out hc2 hbw)
  have c2 := c1.trans hc2
  clear hr2 hc2 own1 c1 hs1
  go_wp2_with fail
  refine (l01Pick_any B b w2.heap.size 5 [1 + r1, 1 + r2, 64, 65, 0] _ (Src.al hs2 _) (by omega) (by omega) (lit_own hs2.here _ 5 rfl (by omega))).mono ?_
  rintro e w3 ⟨r3, rfl, hr3, hs3, hc3⟩
  obtain ⟨q0, rfl⟩ := Int.eq_ofNat_of_zero_le (show 0 ≤ r3 by simp at hr3; omega)
  have hq0 : q0 ≤ 65 := by simp at hr3; omega
  have own3 := Lib.hid (own_dr (own2.out.alloc _) hc3 hbw)
  have c3 := (c2.trans (Chg.al _ _)).trans hc3
  clear hr3 hc3 own2 c2 hs2
  go_wp2_with fail
  go_loopw [5, 6] (fun l k wr => ∃ (q m : Nat) (A : Option Addr) (c : Nat) (xs : List Int), k = .int .i64 (q : Int) ∧ l = .slice A m c ∧ m + q ≤ 65 ∧ Hid (wr.ownsRow w.heap.size 2 1 (.slice A m c) m (xs.map (Value.int .i64))) ∧ Src wr B b ∧ Chg b (b + 1) w wr) (fun _ k _ => (intOf k).toNat)
  case atStart => exact ⟨q0, 0, _, 0, [], rfl, rfl, by omega, own3, hs3, c3⟩
  case round =>
    clear own3 hs3 c3
    obtain ⟨q, m, A, c, xs, rfl, rfl, hmq, hown, hs, hc⟩ := hrel
    have hsz := hc.size
    obtain ⟨hmc, hcm⟩ : m ≤ c ∧ c ≤ 9223372036854775807 := by
      obtain ⟨A9, c9, e, h1, h2⟩ := own_shape hown.out
      cases e; exact ⟨h1, h2⟩
    have hlx : xs.length = m := by have := hown.out.1; simpa using this
    have Hlx := Lib.hid hlx
    clear hlx
    by_cases hq : 0 < q
    · have hq' : (0 : Int) < (q : Int) := by omega
      have hqs : (q : Int) - 1 = ((q - 1 : Nat) : Int) := by omega
      go_wp2_with fail
      refine (l01Next_any B b 3 _ hs (by omega)).mono ?_
      rintro e w4 ⟨r4, rfl, hr4, hs4, hc4⟩
      have b4 := hr4.1; have b4' := hr4.2.1 (by omega)
      have own4 := Lib.hid (own_dr hown.out hc4 hbw)
      have c4 := hc.trans hc4
      clear hr4 hc4 hown hs hc
      go_wp2_with fail
      refine (l01Next_any B b 12 _ hs4 (by omega)).mono ?_
      rintro e w5 ⟨r5, rfl, hr5, hs5, hc5⟩
      have b5 := hr5.1; have b5' := hr5.2.1 (by omega)
      have own5 := Lib.hid (own_dr own4.out hc5 hbw)
      have c5 := c4.trans hc5
      clear hr5 hc5 own4 hs4 c4
      go_wp2_with fail
      refine (l01Pick_any B b w5.heap.size 4 [0, 0, r4, r5] _ (Src.al hs5 _) (by omega) (by omega) (lit_own hs5.here _ 4 rfl (by omega))).mono ?_
      rintro e w6 ⟨r6, rfl, hr6, hs6, hc6⟩
      have b6 : 0 ≤ r6 ∧ r6 ≤ 12 := by simp at hr6; omega
      have own6 := Lib.hid (own_dr (own5.out.alloc _) hc6 hbw)
      have c6 := (c5.trans (Chg.al _ _)).trans hc6
      clear hr6 hc6 own5 hs5 c5
      have hs6z := c6.size
      go_wp2_with (at_builtin; refine wp_append_i rfl _ _ rfl w.heap.size _ m xs rfl (own6.out.alloc _) w6.heap.size (least + r6) 1 rfl (by simp) (by omega) (by simp; omega) ?_)
      intro g' cap' w7 hown7 hgrow hat hlt7
      have c7 := chg_grow c6 _ hgrow (fun k e => (own6.out.lt k e).1)
      have hs7 := src_grow (lo := w.heap.size) hs6 _ hgrow hbw (fun k e => (own6.out.lt k e).1)
      have own7 := Lib.hid (show w7.ownsRow w.heap.size 2 1 (.slice (some ⟨g', 0, none⟩) (m + 1) cap') (m + 1) ((xs ++ [least + r6]).map (Value.int .i64)) by simpa using hown7)
      clear own6 c6 hs6 hgrow hat hown7
      go_wp2
      go_roundw
      case rel => exact ⟨q - 1, m + 1, _, _, _, by go_num, rfl, by omega, own7, hs7, c7⟩
      case measure => first | (simp [intOf]; done) | (simp [intOf]; omega)
    · have hq' : ¬ (0 : Int) < (q : Int) := by omega
      by_cases hm : m = 0
      · have hm' : ¬ (0 : Int) < (m : Int) := by omega
        clear hm
        go_wp2
        go_ret
        first | exact ⟨_, xs, rfl, Ow.of_own (n := m) hown.out, by rw [Hlx.out]; omega, hs, hc⟩ | exact ⟨_, rfl, xs, Ow.of_own (n := m) hown.out, by rw [Hlx.out]; omega, hs, hc⟩
      · have hm' : (0 : Int) < (m : Int) := by omega
        have Hm := Lib.hid hm
        clear hm
        go_wp2_with fail
        refine (l01Next_any B b 20 _ hs (by omega)).mono ?_
        rintro e w4 ⟨r4, rfl, hr4, hs4, hc4⟩
        have own4 := Lib.hid (own_dr hown.out hc4 hbw)
        have c4 := hc.trans hc4
        clear hr4 hc4 hown hs hc
        by_cases h0 : r4 = 0
        · have hb0 : (r4 == 0) = true := by simp [h0]
          clear h0
          go_wp2_with fail
          refine (l01Next_any B b (m : Int) _ hs4 (by omega)).mono ?_
          rintro e w5 ⟨r5, rfl, hr5, hs5, hc5⟩
          have b5 := hr5.1; have b5' := hr5.2.1 (by omega)
          obtain ⟨k, rfl⟩ := Int.eq_ofNat_of_zero_le b5
          have own5 := Lib.hid (own_dr own4.out hc5 hbw)
          have c5 := c4.trans hc5
          clear hr5 hc5 own4 hs4 c4
          go_wp2_with fail
          refine (l01Pick_any B b w5.heap.size 5 [0, -1, least - 1, 1000000000, 1000000001] _ (Src.al hs5 _) (by omega) (by omega) (lit_own hs5.here _ 5 rfl (by omega))).mono ?_
          rintro e w6 ⟨r6, rfl, hr6, hs6, hc6⟩
          have own6 := Lib.hid (own_dr (own5.out.alloc _) hc6 hbw)
          have c6 := (c5.trans (Chg.al _ _)).trans hc6
          clear hr6 hc6 own5 hs5 c5
          obtain ⟨g, cg, eg⟩ := Go.Joins.ownsRow_form own6.out (by omega)
          cases eg
          have hk : k < m := by omega
          have hi1 : 0 ≤ (k : Int) ∧ (k : Int) < (m : Int) := by omega
          have hst := own6.out.stored k (.int .i64 r6)
          have hfr := own6.out.frozenAt k
          obtain ⟨old, hold⟩ : ∃ old, w6.cell? ⟨g, k, none⟩ = some old := by
            rw [own6.out.cellAt k (by omega)]
            exact ⟨_, List.getElem?_eq_getElem (by simp; rw [Hlx.out]; exact hk)⟩
          have hglt := own6.out.lt g rfl
          have Hst := Lib.hid hst.1
          have hc7 : Chg b (b + 1) w (w6.setCell ⟨g, k, none⟩ (.int .i64 r6)) := ⟨c6.os, c6.tape, c6.output, by simpa using c6.size, fun x hx hn => (Below.heap_setCell w6 ⟨g, k, none⟩ _ x (by show x ≠ g; omega)).trans (c6.block x hx hn)⟩
          have hs7 := hs6.keep (Chg.setC (lo := g) (hi := g + 1) (p := ⟨g, k, none⟩) ⟨Nat.le_refl _, Nat.lt_succ_self _⟩ (.int .i64 r6)) (.inl (by omega)) (.inl (by have := hs6.lt; omega))
          clear hst hs6 c6 b5 b5'
          go_wp2
          go_ret
          refine ⟨_, xs.set k r6, rfl, Ow.of_own (n := m) ?_, by rw [List.length_set, Hlx.out]; omega, hs7, hc7⟩
          rw [List.map_set]; exact Hst.out
        · have hb0 : (r4 == 0) = false := by rw [beq_eq_false_iff_ne]; exact h0
          clear h0
          go_wp2
          go_ret
          exact ⟨_, xs, rfl, Ow.of_own (n := m) own4.out, by rw [Hlx.out]; omega, hs4, c4⟩
theorem DrawNegativeValue_any (B : Nat) (v : Value) (n : Nat) (w : World) (h : IsY w B v n) (hB : B ≤ w.heap.size) :
    Calls Try.prog 17 #[v] w fun e w' => ∃ v' xs, e = .returned v' ∧ Ow w' w.heap.size w'.heap.size v' xs ∧ xs.length ≤ 65 ∧ Below w.heap.size w w' := by
  go_enter Try.func17, Try.ntmps17
  go_wp2_with fail
  refine (l01From_any B v n _ h hB).mono ?_
  rintro e w1 ⟨rfl, hs1, hb1⟩
  have hsz := hb1.size
  go_wp2_with fail
  refine (l01Parts_any B w.heap.size 2 _ hs1 (by omega)).mono ?_
  rintro e w2 ⟨v2, xs, rfl, ow2, hl2, hs2, hc2⟩
  obtain ⟨A2, c2, rfl, _, _⟩ := ow2.shape
  have hbw := hb1.trans (hc2.below hsz (.inl (Nat.le_refl _)))
  have Ow2 := Lib.hid (ow2.wide hsz (Nat.le_refl _))
  clear hc2 hb1 ow2
  go_wp2
  go_ret
  exact ⟨_, xs, rfl, Ow2.out, hl2, hbw⟩
set_option maxHeartbeats 1600000 in
theorem DrawFractionValue_any (B : Nat) (v : Value) (n : Nat) (w : World) (h : IsY w B v n) (hB : B ≤ w.heap.size) :
    Calls Try.prog 19 #[v] w fun e w' => ∃ v' xs, e = .returned v' ∧ Ow w' w.heap.size w'.heap.size v' xs ∧ xs.length ≤ 65 ∧ Below w.heap.size w w' := by
  go_enter Try.func19, Try.ntmps19
  go_wp2_with fail
  refine (l01From_any B v n _ h hB).mono ?_
  rintro e w1 ⟨rfl, hs1, hb1⟩
  have hsz := hb1.size
  have hs1b := hs1.here
  go_wp2_with fail
  refine (l01Parts_any B w.heap.size 1 _ hs1 (by omega)).mono ?_
  rintro e w2 ⟨v2, xs, rfl, ow2, hl2, hs2, hc2⟩
  obtain ⟨A2, c2, rfl, hcc, hcm⟩ := ow2.shape
  have hbw := hb1.trans (hc2.below hsz (.inl (Nat.le_refl _)))
  have hsz2 := hc2.size
  have own2 := Lib.hid ow2.1
  obtain ⟨m, Hm⟩ : ∃ m, Hid (xs.length = m) := ⟨_, Lib.hid rfl⟩
  rw [Hm.out] at hl2 hcc own2 ⊢
  clear hc2 hb1 ow2 hs1
  by_cases hm : m = 0
  · have hm' : ¬ (0 : Int) < (m : Int) := by omega
    clear hm
    go_wp2
    go_ret
    exact ⟨_, xs, rfl, (Ow.of_own (n := m) own2.out).wide (by omega) (Nat.le_refl _), by rw [Hm.out]; exact hl2, hbw⟩
  · have hm' : (0 : Int) < (m : Int) := by omega
    have hm1 : 0 < m := by omega
    clear hm
    go_wp2_with fail
    refine (l01Next_any B w.heap.size 5 _ hs2 (by omega)).mono ?_
    rintro e w3 ⟨r3, rfl, hr3, hs3, hc3⟩
    have own3 := Lib.hid (own_dr own2.out hc3 hs1b)
    have hbw3 := hbw.trans (hc3.below (by omega) (.inl (Nat.le_refl _)))
    have hsz3 := hc3.size
    clear hr3 hc3 own2 hs2 hbw
    by_cases h0 : r3 = 0
    · have hb0 : (r3 == 0) = true := by simp [h0]
      clear h0
      obtain ⟨g, cg, eg⟩ := Go.Joins.ownsRow_form own3.out (by omega)
      cases eg
      have hst := own3.out.stored 0 (.int .i64 0)
      have hfr := own3.out.frozenAt 0
      obtain ⟨old, hold⟩ : ∃ old, w3.cell? ⟨g, 0, none⟩ = some old := by
        rw [own3.out.cellAt 0 (by omega)]
        exact ⟨_, List.getElem?_eq_getElem (by simp; rw [Hm.out]; exact hm1)⟩
      have hglt := own3.out.lt g rfl
      have Hst := Lib.hid hst.1
      have hb4 := Lib.hid (hbw3.setCell (p := ⟨g, 0, none⟩) (by show w.heap.size ≤ g; omega) (.int .i64 0))
      clear hst hbw3
      go_wp2
      go_ret
      refine ⟨_, xs.set 0 0, rfl, (Ow.of_own (n := m) (lo := w1.heap.size) ?_).wide (by omega) (Nat.le_refl _), by rw [List.length_set, Hm.out]; exact hl2, hb4.out⟩
      rw [List.map_set]; exact Hst.out
    · have hb0 : (r3 == 0) = false := by rw [beq_eq_false_iff_ne]; exact h0
      clear h0
      go_wp2
      go_ret
      exact ⟨_, xs, rfl, (Ow.of_own (n := m) own3.out).wide (by omega) (Nat.le_refl _), by rw [Hm.out]; exact hl2, hbw3⟩
theorem isNat_bd {a : Int} (h : isNat a = true) : 1 ≤ a ∧ a ≤ 1000000000 := by unfold isNat at h; exact inR_true.1 h
end WF
end Go.Proofs.Ythnpcjjdckpmiaa
