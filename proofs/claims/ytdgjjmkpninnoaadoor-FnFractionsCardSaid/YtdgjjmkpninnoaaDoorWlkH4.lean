/-
  WALKS, DRAWS: two fractions, lists of numbers, texts of fractions.
-/
import Derived.Test.YtdgjjmkpninnoaaDoorWlkH3
namespace Go.Proofs.YtdgjjmkpninnoaaDoor
open Go.RowKit
set_option linter.unusedVariables false
namespace WF
open K Pl WA WX
/-- The measure of a source, read off a world. -/
def tOf (w : World) (b : Nat) : Nat := match w.cell? ⟨b, 1, none⟩ with | some (.int _ x) => x.toNat | _ => 0
def hOf (w : World) (b : Nat) : Nat := match w.cell? ⟨b, 2, none⟩ with | some (.int _ x) => x.toNat | _ => 0
noncomputable def meaW (w : World) (b n : Nat) : Nat := mea n (tOf w b) (hOf w b)
theorem SrcA.mea {w : World} {B b n t h : Nat} (s : SrcA w B b n t h) : meaW w b n = mea n t h := by
  unfold meaW tOf hOf; rw [s.c1, s.c2]; simp
/-- A round of the loop: the source comes nearer to its end. -/
theorem mea_round {n t h g : Nat} (r : Int) (ht : t ≤ n) (hr : t = n → r = ((ou (nx h) : Nat) : Int) % 3) (h0 : r = 0) (h1 : 1 ≤ g) (h5 : g ≤ 5) : mea n (tk n t g) (itn g h) < mea n t h := by
  refine mea_step ht (fun e => ?_) h1 h5
  have h2 := hr e
  rw [h0] at h2
  unfold nz
  rw [bne_eq_false_iff_eq]
  omega
theorem txF_size (X Y : Int) (hX : -40 ≤ X ∧ X ≤ 40) (hY : 0 ≤ Y ∧ Y ≤ 20) : (S (txF X Y)).size ≤ 60 := by
  have h1 := S_size_sgn X (by omega) (by omega)
  have h2 := S_size_dec Y (by omega) (by omega)
  rw [S_size] at h1 h2 ⊢
  unfold txF
  rw [List.length_append]
  split
  · simp; omega
  · rw [List.length_cons]; omega
theorem rf_old {w w' : World} {b r : Nat} {x y : Value} (h : Rf w r x y) (hc : Chg b (b + 1) w w') (hb : r < b) : Rf w' r x y := by
  have hlt := h.here
  have hfr : ∀ o, w'.frozen? ⟨r, o, none⟩ = w.frozen? ⟨r, o, none⟩ := fun o => World.frozen?_of_block (w := w) (hc.block r hlt (by omega))
  exact ⟨⟨hc.cell h.1.1 (.inl hb), hc.cell h.1.2 (.inl hb)⟩, (hfr 0).trans h.2.1, (hfr 1).trans h.2.2⟩
theorem DrawAddFractions_any (B : Nat) (v : Value) (n : Nat) (w : World) (h : IsY w B v n) (hB : B ≤ w.heap.size) :
    Calls Tryd.prog 5 #[v] w fun e w' => ∃ t b u c : Int, e = .returned (.tuple #[.agg #[.int .i64 t, .int .i64 b], .agg #[.int .i64 u, .int .i64 c]]) ∧ Below w.heap.size w w' := by
  have h1 := (h.below ((Below.refl B w).alloc hB (.cells #[.int .i64 0, .int .i64 0] 25)))
  have h2 := h1.below ((Below.refl B _).alloc (by simp; omega) (.cells #[.int .i64 0, .int .i64 0] 25))
  have R1 := (Rf.new w (.int .i64 0) (.int .i64 0) 25).al (.cells #[.int .i64 0, .int .i64 0] 25)
  have R2 := Rf.new (w.alloc (.cells #[.int .i64 0, .int .i64 0] 25)) (.int .i64 0) (.int .i64 0) 25
  have bw : Below w.heap.size w ((w.alloc (.cells #[.int .i64 0, .int .i64 0] 25)).alloc (.cells #[.int .i64 0, .int .i64 0] 25)) := ((Below.refl _ _).alloc (Nat.le_refl _) _).alloc (by simp) _
  have hz : ((w.alloc (.cells #[.int .i64 0, .int .i64 0] 25)).alloc (.cells #[.int .i64 0, .int .i64 0] 25)).heap.size = w.heap.size + 2 := by simp
  rw [show (w.alloc (.cells #[.int .i64 0, .int .i64 0] 25)).heap.size = w.heap.size + 1 by simp] at R2
  go_enter Tryd.func5, Tryd.ntmps5
  go_wp2_with fail
  refine (l01From_any B v n _ h2 (by rw [hz]; omega)).mono ?_
  rintro e w1 ⟨rfl, s1, hb1⟩
  have R3 := R1.later hb1
  have R4 := R2.later hb1
  have bw1 := bw.trans (hb1.mono (by rw [hz]; omega))
  rw [hz] at s1 ⊢
  have hz1 := hb1.size
  rw [hz] at hz1
  clear hb1 R1 R2 h1 h2 h bw hz
  go_wp2_with fail
  refine (l01DrawFraction_any B (w.heap.size + 2) _ s1).mono ?_
  rintro e w2 ⟨t, b, rfl, s2, c2⟩
  have R5 := rf_old R3 c2 (by omega)
  have R6 := rf_old R4 c2 (by omega)
  have bw2 := bw1.trans (c2.below (by omega) (.inl (by omega)))
  clear c2 s1 R3 R4 bw1
  go_wp2_with fail
  refine (l01DrawFraction_any B (w.heap.size + 2) _ s2).mono ?_
  rintro e w3 ⟨u, c, rfl, s3, c3⟩
  have R7 := rf_old R5 c3 (by omega)
  have R8 := rf_old R6 c3 (by omega)
  have bw3 := bw2.trans (c3.below (by have := R5.here; omega) (.inl (by omega)))
  clear c3 s2 s3 R5 R6 bw2
  have f0 := R7.1.1
  have f1 := R7.1.2
  have f2 := R7.2.1
  have f3 := R7.2.2
  have f4 := R8.1.1
  have f5 := R8.1.2
  have f6 := R8.2.1
  have f7 := R8.2.2
  have Q7 := rf_other (s := w.heap.size + 1) (o := 1) (v := .int .i64 c) (rf_other (s := w.heap.size + 1) (o := 0) (v := .int .i64 u) (rf_set1 (v := .int .i64 b) (rf_set0 (v := .int .i64 t) R7)) (by omega)) (by omega)
  have Q8 := rf_set1 (v := .int .i64 c) (rf_set0 (v := .int .i64 u) (rf_other (s := w.heap.size) (o := 1) (v := .int .i64 b) (rf_other (s := w.heap.size) (o := 0) (v := .int .i64 t) R8 (by omega)) (by omega)))
  have u0 := Q7.1.1
  have u1 := Q7.1.2
  have u2 := Q8.1.1
  have u3 := Q8.1.2
  have hd := Lib.hid ((((bw3.setCell (p := ⟨w.heap.size, 0, none⟩) (Nat.le_refl _) (.int .i64 t)).setCell (p := ⟨w.heap.size, 1, none⟩) (Nat.le_refl _) (.int .i64 b)).setCell (p := ⟨w.heap.size + 1, 0, none⟩) (Nat.le_succ _) (.int .i64 u)).setCell (p := ⟨w.heap.size + 1, 1, none⟩) (Nat.le_succ _) (.int .i64 c))
  clear R7 R8 Q7 Q8 bw3 hB
  go_wp2_with fail
  exact bodyPost_ret (v := .tuple #[.agg #[.int .i64 t, .int .i64 b], .agg #[.int .i64 u, .int .i64 c]]) (by simp [results, Tryd.results5, go_sem, u0, u1, u2, u3]) rfl ⟨t, b, u, c, rfl, hd.out⟩
set_option maxHeartbeats 1600000 in
theorem DrawParseFraction_any (B : Nat) (v : Value) (n : Nat) (w : World) (h : IsY w B v n) (hB : B ≤ w.heap.size) (hn : n ≤ 4096) :
    Calls Tryd.prog 20 #[v] w fun e w' => ∃ s : ByteArray, e = .returned (.string s) ∧ s.size ≤ 6000000000000 ∧ Below w.heap.size w w' := by
  go_enter Tryd.func20, Tryd.ntmps20
  go_wp2_with fail
  refine (l01From_at B v n _ h hB).mono ?_
  rintro e w1 ⟨rfl, ⟨t1, h1, s1⟩, hb1⟩
  have hz1 := hb1.size
  obtain ⟨b, hb⟩ : ∃ b, w.heap.size = b := ⟨_, rfl⟩
  rw [hb] at s1 hb1 ⊢
  have hbw : b ≤ w1.heap.size := by omega
  go_wp2_with fail
  refine (l01Next_at B b n _ _ 81 _ s1 (by omega) (by omega)).mono ?_
  rintro e w2 ⟨r2, rfl, ⟨p0, p1⟩, _, s2, hc2⟩
  have b2 := hb1.trans (hc2.below hbw (.inl (Nat.le_refl _)))
  have hz2 := hc2.size
  clear hb1 hc2 s1
  go_wp2_with fail
  refine (l01Next_at B b n _ _ 20 _ s2 (by omega) (by omega)).mono ?_
  rintro e w3 ⟨r3, rfl, ⟨p2, p3⟩, _, s3, hc3⟩
  have b3 := b2.trans (hc3.below (by omega) (.inl (Nat.le_refl _)))
  have hz3 := hc3.size
  clear hc3 s2 b2
  go_wp2_with fail
  refine (l01Make_any (r2 - 40) (1 + r3) _ (by omega) (by omega) (by omega) (by omega) (by omega)).mono ?_
  rintro e w4 ⟨rfl, hb4⟩
  have hX := redT_abs (r2 - 40) (1 + r3)
  have hY := redB_abs (r2 - 40) (1 + r3)
  have hY1 := (redB_bd (r2 - 40) (1 + r3) (by omega) (by omega) (by omega)).1
  generalize redT (r2 - 40) (1 + r3) = X at *
  generalize redB (r2 - 40) (1 + r3) = Y at *
  have bX : -40 ≤ X ∧ X ≤ 40 := by omega
  have bY : 0 ≤ Y ∧ Y ≤ 20 := by omega
  have s4 := s3.later hb4
  have b4 := b3.trans (hb4.mono (by omega))
  have hz4 := hb4.size
  clear hb4 s3 b3 hX hY hY1
  go_wp2_with fail
  refine (l01Text_any X Y _ (by omega) (by omega)).mono ?_
  rintro e w5 ⟨rfl, hb5⟩
  have s5 := s4.later hb5
  have b5 := b4.trans (hb5.mono (by omega))
  have hz5 := hb5.size
  clear hb5 s4 b4
  have hsz := txF_size X Y bX bY
  have hm := mea_le n (tk n (tk n t1 1) 1) (itn 1 (itn 1 h1))
  go_wp2_with fail
  go_loopw [4] (fun x wr => ∃ (s : ByteArray) (t h : Nat), x = .string s ∧ SrcA wr B b n t h ∧ s.size + mea n t h ≤ 5500000000000 ∧ Below b w wr) (fun _ wr => meaW wr b n)
  case atStart => exact ⟨_, _, _, rfl, s5, by omega, b5⟩
  case round =>
    clear s5 b5 hsz hm bX bY p0 p1 p2 p3
    obtain ⟨s, t, h, rfl, sr, hsm, br⟩ := hrel
    have hmr := sr.mea
    have hzr := br.size
    go_wp2_with fail
    refine (l01Next_at B b n _ _ 3 _ sr (by omega) (by omega)).mono ?_
    rintro e w6 ⟨r6, rfl, ⟨p0, p1⟩, hr6, s6, hc6⟩
    have b6 := br.trans (hc6.below (by omega) (.inl (Nat.le_refl _)))
    have hz6 := hc6.size
    clear hc6
    by_cases q0 : r6 = 0
    · have q0b : (r6 == 0) = true := beqT q0
      have hle := sr.le
      have Hstep := Lib.hid (fun g h1 h5 => mea_round (g := g) r6 hle hr6 q0 h1 h5)
      clear q0 p0 p1 sr br hr6
      go_wp2_with fail
      refine (l01Damage_at B b n _ _ s _ s6 (by omega)).mono ?_
      rintro e w7 ⟨s', rfl, hs', ⟨g, hg, s7⟩, hc7⟩
      have s7 := s7.two
      have b7 := b6.trans (hc7.below (by omega) (.inl (Nat.le_refl _)))
      have hstep := Hstep.out (1 + g) (by omega) (by omega)
      have hm7 := s7.mea
      clear hc7 s6 b6
      go_wp2
      go_roundw
      case rel => exact ⟨s', _, _, rfl, s7, by omega, b7⟩
      case measure => omega
    · have q0b : (r6 == 0) = false := beqF q0
      clear q0 p0 p1 sr br
      go_wp2
      go_ret
      exact ⟨s, rfl, by omega, by rw [hb]; exact b6⟩
set_option maxHeartbeats 3200000 in
theorem DrawCommonDivisorOf_any (B : Nat) (v : Value) (n : Nat) (w : World) (h : IsY w B v n) (hB : B ≤ w.heap.size) :
    Calls Tryd.prog 16 #[v] w fun e w' => ∃ v' xs, e = .returned v' ∧ Ow w' w.heap.size w'.heap.size v' xs ∧ xs.length ≤ 65 ∧ Below w.heap.size w w' := by
  go_enter Tryd.func16, Tryd.ntmps16
  go_wp2_with fail
  refine (l01From_any B v n _ h hB).mono ?_
  rintro e w0 ⟨rfl, hs, hb⟩
  have hz0 := hb.size
  have hbw := hs.here
  obtain ⟨b, heb⟩ : ∃ b, w.heap.size = b := ⟨_, rfl⟩
  rw [heb] at hs hb hbw hz0 ⊢
  have own0 := Lib.hid (World.ownsRow_lit (base := w0.heap.size) (e := 2) (size := 1) w0 #[] 0 (Nat.le_refl _) (by unfold maxLen; omega) rfl)
  have hs0 := Lib.hid (fun o => Src.al hs o)
  have hc0 := Lib.hid (fun o => Chg.al (lo := b) (hi := b + 1) w0 o)
  clear hs
  go_wp2_with fail
  refine (l01Next_any B b 6 _ (hs0.out _) (by omega)).mono ?_
  rintro e w1 ⟨r1, rfl, hr1, hs1, hc1⟩
  have b1 := hr1.1; have b1' := hr1.2.1 (by omega)
  have own1 := Lib.hid (own_dr own0.out hc1 hbw)
  have c1 := (hc0.out _).trans hc1
  clear hr1 hc1 own0
  go_wp2_with fail
  refine (l01Next_any B b 6 _ hs1 (by omega)).mono ?_
  rintro e w2 ⟨r2, rfl, hr2, hs2, hc2⟩
  have b2 := hr2.1; have b2' := hr2.2.1 (by omega)
  have own2 := Lib.hid (own_dr own1.out hc2 hbw)
  have c2 := c1.trans hc2
  clear hr2 hc2 own1 c1 hs1
  go_wp2_with fail
  refine (l01Pick_any B b w2.heap.size 4 [r1, r2, 64, 65] _ (Src.al hs2 _) (by omega) (by omega) (lit_own hs2.here _ 4 rfl (by omega))).mono ?_
  rintro e w3 ⟨r3, rfl, hr3, hs3, hc3⟩
  obtain ⟨q0, rfl⟩ := Int.eq_ofNat_of_zero_le (show 0 ≤ r3 by simp at hr3; omega)
  have hq0 : q0 ≤ 65 := by simp at hr3; omega
  have own3 := Lib.hid (own_dr (own2.out.alloc _) hc3 hbw)
  have c3 := (c2.trans (Chg.al _ _)).trans hc3
  clear hr3 hc3 own2 c2 hs2 hs0 hc0
  go_wp2_with fail
  go_loopw [4, 5] (fun l k wr => ∃ (q m : Nat) (A : Option Addr) (c : Nat) (xs : List Int), k = .int .i64 (q : Int) ∧ l = .slice A m c ∧ m + q ≤ 65 ∧ Hid (wr.ownsRow w0.heap.size 2 1 (.slice A m c) m (xs.map (Value.int .i64))) ∧ Src wr B b ∧ Chg b (b + 1) w0 wr) (fun _ k _ => (intOf k).toNat)
  case atStart => exact ⟨q0, 0, _, 0, [], rfl, rfl, by omega, own3, hs3, c3⟩
  case round =>
    clear own3 hs3 c3
    obtain ⟨q, m, A, c, xs, rfl, rfl, hmq, hown, hs, hc⟩ := hrel
    have hsz := hc.size
    obtain ⟨hmc, hcm⟩ : m ≤ c ∧ c ≤ 9223372036854775807 := by
      obtain ⟨A9, c9, e, h1, h2⟩ := own_shape hown.out
      cases e; exact ⟨h1, h2⟩
    have hlx : xs.length = m := by have := hown.out.1; simpa using this
    have Hlx := Lib.hid hlx
    clear hlx
    by_cases hq : 0 < q
    · have hq' : (0 : Int) < (q : Int) := by omega
      have hqs : (q : Int) - 1 = ((q - 1 : Nat) : Int) := by omega
      go_wp2_with fail
      refine (l01Pick_any B b wr.heap.size 4 [6, 12, 4, 30] _ (Src.al hs _) (by omega) (by omega) (lit_own hs.here _ 4 rfl (by omega))).mono ?_
      rintro e w4 ⟨r4, rfl, hr4, hs4, hc4⟩
      have b4 : 4 ≤ r4 ∧ r4 ≤ 30 := by simp at hr4; omega
      have own4 := Lib.hid (own_dr (hown.out.alloc _) hc4 hbw)
      have c4 := (hc.trans (Chg.al _ _)).trans hc4
      clear hr4 hc4 hown hs hc
      go_wp2_with fail
      refine (l01Next_any B b 21 _ hs4 (by omega)).mono ?_
      rintro e w5 ⟨r5, rfl, hr5, hs5, hc5⟩
      have b5 := hr5.1; have b5' := hr5.2.1 (by omega)
      have own6 := Lib.hid (own_dr own4.out hc5 hbw)
      have c6 := c4.trans hc5
      clear hr5 hc5 own4 hs4 c4
      have hs6z := c6.size
      obtain ⟨z, hz⟩ : ∃ z, IntKind.i64.wrap (r4 * (r5 - 10)) = z := ⟨_, rfl⟩
      have hmm := mul_bd2 r4 (r5 - 10) (by omega) (by omega) (by omega) (by omega)
      have hz2 : r4 * (r5 - 10) = z := by rw [← hz]; exact (IntWalk.i64_in _ (by omega)).symm
      go_wp2_with (at_builtin; refine wp_append_i rfl _ _ rfl w0.heap.size _ m xs rfl (own6.out.alloc _) w5.heap.size z 1 rfl (by simp) (by omega) (by simp; omega) ?_)
      intro g' cap' w7 hown7 hgrow hat hlt7
      have c7 := chg_grow c6 _ hgrow (fun k e => (own6.out.lt k e).1)
      have hs7 := src_grow (lo := w0.heap.size) hs5 _ hgrow hbw (fun k e => (own6.out.lt k e).1)
      have own7 := Lib.hid (show w7.ownsRow w0.heap.size 2 1 (.slice (some ⟨g', 0, none⟩) (m + 1) cap') (m + 1) ((xs ++ [z]).map (Value.int .i64)) by simpa using hown7)
      clear own6 c6 hs5 hgrow hat hown7
      go_wp2
      go_roundw
      case rel => exact ⟨q - 1, m + 1, _, _, _, by go_num, rfl, by omega, own7, hs7, c7⟩
      case measure => first | (simp [intOf]; done) | (simp [intOf]; omega)
    · have hq' : ¬ (0 : Int) < (q : Int) := by omega
      have hbw9 : ∀ w', Chg b (b + 1) w0 w' → Below b w w' := fun w' hc => hb.trans (hc.below hz0 (.inl (Nat.le_refl _)))
      by_cases hm : m = 0
      · have hm' : ¬ (0 : Int) < (m : Int) := by omega
        clear hm
        go_wp2
        go_ret
        exact ⟨_, rfl, xs, (Ow.of_own (n := m) hown.out).wide (by omega) (Nat.le_refl _), by rw [Hlx.out]; omega, by first | exact hbw9 _ hc | (rw [heb]; exact hbw9 _ hc)⟩
      · have hm' : (0 : Int) < (m : Int) := by omega
        have hm1 : 0 < m := by omega
        clear hm
        go_wp2_with fail
        refine (l01Next_any B b 20 _ hs (by omega)).mono ?_
        rintro e w4 ⟨r4, rfl, hr4, hs4, hc4⟩
        have own4 := Lib.hid (own_dr hown.out hc4 hbw)
        have c4 := hc.trans hc4
        clear hr4 hc4 hown hs hc
        by_cases h0 : r4 = 0
        · have hb0 : (r4 == 0) = true := by simp [h0]
          clear h0
          go_wp2_with fail
          refine (l01Draw_any B b _ hs4).mono ?_
          rintro e w6 ⟨r6, rfl, hr6, hs6, hc6⟩
          have own6 := Lib.hid (own_dr own4.out hc6 hbw)
          have c6 := c4.trans hc6
          clear hc6 own4 hs4 c4
          obtain ⟨g, cg, eg⟩ := Go.Joins.ownsRow_form own6.out (by omega)
          cases eg
          have hst := own6.out.stored 0 (.int .i64 r6)
          have hfr := own6.out.frozenAt 0
          obtain ⟨old, hold⟩ : ∃ old, w6.cell? ⟨g, 0, none⟩ = some old := by
            rw [own6.out.cellAt 0 (by omega)]
            exact ⟨_, List.getElem?_eq_getElem (by simp; rw [Hlx.out]; exact hm1)⟩
          have hglt := own6.out.lt g rfl
          have Hst := Lib.hid hst.1
          have hb7 := hbw9 _ (set_chg c6 (by omega) 0 (.int .i64 r6) : Chg b (b + 1) w0 (w6.setCell ⟨g, 0, none⟩ (.int .i64 r6)))
          clear hst hs6 c6
          go_wp2
          go_ret
          refine ⟨_, xs.set 0 r6, rfl, (Ow.of_own (n := m) (lo := w0.heap.size) ?_).wide (by omega) (Nat.le_refl _), by rw [List.length_set, Hlx.out]; omega, by first | exact hb7 | (rw [heb]; exact hb7)⟩
          rw [List.map_set]; exact Hst.out
        · have hb0 : (r4 == 0) = false := by rw [beq_eq_false_iff_ne]; exact h0
          clear h0
          go_wp2
          go_ret
          exact ⟨_, xs, rfl, (Ow.of_own (n := m) own4.out).wide (by omega) (Nat.le_refl _), by rw [Hlx.out]; omega, by first | exact hbw9 _ c4 | (rw [heb]; exact hbw9 _ c4)⟩
end WF
end Go.Proofs.YtdgjjmkpninnoaaDoor
