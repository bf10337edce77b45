/-
  WALKS, DRAWS: polynomials for texts, for powers, for symmetry; texts of polynomials.
-/
import Derived.Test.YtdfhkkngbpidaaaDoorWlkH5
import Derived.Test.YtdfhkkngbpidaaaDoorWlkZ2
import Derived.Test.YtdfhkkngbpidaaaDoorWlkB6
namespace Go.Proofs.YtdfhkkngbpidaaaDoor
open Go.RowKit
set_option linter.unusedVariables false
namespace WF
open K Pl WA WB WZ
/-- A list that reads, in a block from lo on. -/
def Il (w : World) (lo : Nat) (v : Value) (xs : List Int) : Prop := Is w w.heap.size v xs ∧ ∀ k, v.ownBlock = some k → lo ≤ k
theorem Ow.il {w : World} {lo lo' hi : Nat} {v : Value} {xs : List Int} (h : Ow w lo hi v xs) (hl : lo' ≤ lo) : Il w lo' v xs := ⟨h.is, fun k hk => by have := (h.1.lt k hk).1; omega⟩
theorem Il.chg {w w' : World} {lo a b : Nat} {v : Value} {xs : List Int} (h : Il w lo v xs) (hc : Chg a b w w') (hd : b ≤ lo) : Il w' lo v xs := by
  obtain ⟨⟨A, n, c, rfl, h1, h2, h3⟩, hl⟩ := h
  refine ⟨⟨A, n, c, rfl, h1, h2, ⟨h3.len, fun hn => ?_⟩⟩, hl⟩
  obtain ⟨ad, rfl, hb, hcl⟩ := h3.pos hn
  have hlo := hl ad.block rfl
  refine ⟨ad, rfl, by have := hc.size; omega, fun j hj => ?_⟩
  exact (World.cell?_of_block (w := w) (hc.block _ (by rw [block_of_add]; exact hb) (by rw [block_of_add]; omega))).trans (hcl j hj)
theorem Il.later {w w' : World} {lo : Nat} {v : Value} {xs : List Int} (h : Il w lo v xs) (hb : Below w.heap.size w w') : Il w' lo v xs := h.chg (Chg.of_below hb) (Nat.zero_le _)
/-- The measure of a source, read off a world. -/
def tOf (w : World) (b : Nat) : Nat := match w.cell? ⟨b, 1, none⟩ with | some (.int _ x) => x.toNat | _ => 0
def hOf (w : World) (b : Nat) : Nat := match w.cell? ⟨b, 2, none⟩ with | some (.int _ x) => x.toNat | _ => 0
noncomputable def meaW (w : World) (b n : Nat) : Nat := mea n (tOf w b) (hOf w b)
theorem SrcA.mea {w : World} {B b n t h : Nat} (s : SrcA w B b n t h) : meaW w b n = mea n t h := by
  unfold meaW tOf hOf; rw [s.c1, s.c2]; simp
/-- A round of the loop: the source comes nearer to its end. -/
theorem mea_round {n t h g : Nat} (r : Int) (ht : t ≤ n) (hr : t = n → r = ((ou (nx h) : Nat) : Int) % 3) (h0 : r = 0) (h1 : 1 ≤ g) (h5 : g ≤ 5) : mea n (tk n t g) (itn g h) < mea n t h := by
  refine mea_step ht (fun e => ?_) h1 h5
  have h2 := hr e
  rw [h0] at h2
  unfold nz
  rw [bne_eq_false_iff_eq]
  omega
theorem DrawPolynomialText_any (B : Nat) (v : Value) (n : Nat) (w : World) (h : IsY w B v n) (hB : B ≤ w.heap.size) :
    Calls Tryd.prog 5 #[v] w fun e w' => ∃ v' xs, e = .returned v' ∧ Is w' w'.heap.size v' xs ∧ Below w.heap.size w w' := by
  go_enter Tryd.func5, Tryd.ntmps5
  go_wp2_with fail
  refine (l01From_any B v n _ h hB).mono ?_
  rintro e w1 ⟨rfl, hs1, hb1⟩
  have hz := hb1.size
  go_wp2_with fail
  refine (l02Spoil_any B _ _ hs1).mono ?_
  rintro e w2 ⟨v2, xs, rfl, o2, hs2, hc2⟩
  obtain ⟨A2, c2, rfl, _, _⟩ := o2.shape
  have hfin := hb1.trans (hc2.below hz (.inl (Nat.le_refl _)))
  have hi := Lib.hid o2.is
  clear hc2 hb1 o2 hs2
  go_wp2
  go_ret
  exact ⟨_, xs, rfl, hi.out, hfin⟩
theorem DrawSubstitutePower_any (B : Nat) (v : Value) (n : Nat) (w : World) (h : IsY w B v n) (hB : B ≤ w.heap.size) :
    Calls Tryd.prog 12 #[v] w fun e w' => ∃ v' xs, ∃ k : Int, e = .returned (.tuple #[v', .int .i64 k]) ∧ (0 ≤ k ∧ k ≤ 2001) ∧ Is w' w'.heap.size v' xs ∧ Below w.heap.size w w' := by
  go_enter Tryd.func12, Tryd.ntmps12
  go_wp2_with fail
  refine (l01From_any B v n _ h hB).mono ?_
  rintro e w1 ⟨rfl, hs1, hb1⟩
  have hz := hb1.size
  obtain ⟨b, heb⟩ : ∃ b, w.heap.size = b := ⟨_, rfl⟩
  have hbw : b < w1.heap.size := by rw [← heb]; exact hs1.here
  rw [heb] at hs1 hb1 hz ⊢
  go_wp2_with fail
  refine (l02Spoil_any B b _ hs1).mono ?_
  rintro e w2 ⟨v2, xs, rfl, o2, hs2, hc2⟩
  obtain ⟨A2, c2, rfl, _, _⟩ := o2.shape
  have i2 := Lib.hid (Ow.il (lo' := w1.heap.size) o2 (Nat.le_refl _))
  have b2 := hb1.trans (hc2.below hz (.inl (Nat.le_refl _)))
  have hz2 := hc2.size
  clear hc2 hb1 o2
  go_wp2_with fail
  refine (l01Next_any B b 5 _ hs2 (by omega)).mono ?_
  rintro e w3 ⟨r3, rfl, hr3, hs3, hc3⟩
  have p3 := hr3.1; have p3' := hr3.2.1 (by omega)
  have i3 := Lib.hid (i2.out.chg hc3 (by omega))
  have b3 := b2.trans (hc3.below (by omega) (.inl (Nat.le_refl _)))
  have hz3 := hc3.size
  clear hc3 b2 i2 hr3 hs2
  go_wp2_with fail
  refine (l01Next_any B b 300 _ hs3 (by omega)).mono ?_
  rintro e w4 ⟨r4, rfl, hr4, hs4, hc4⟩
  have p4 := hr4.1; have p4' := hr4.2.1 (by omega)
  have i4 := Lib.hid (i3.out.chg hc4 (by omega))
  have b4 := b3.trans (hc4.below (by omega) (.inl (Nat.le_refl _)))
  have hz4 := hc4.size
  clear hc4 b3 i3 hr4 hs3
  go_wp2_with fail
  refine (l01Pick_any B b w4.heap.size 5 [1 + r3, 1 + r4, 0, 2000, 2001] _ (Src.al hs4 _) (by omega) (by omega) (lit_own hs4.here _ 5 rfl (by omega))).mono ?_
  rintro e w5 ⟨r5, rfl, hr5, hs5, hc5⟩
  have p5 : 0 ≤ r5 ∧ r5 ≤ 2001 := by simp at hr5; omega
  have i5 := Lib.hid ((i4.out.later ((Below.refl _ _).alloc (Nat.le_refl _) _)).chg hc5 (by omega))
  have b5 := (b4.alloc (by omega) (.cells #[.int .i64 (1 + r3), .int .i64 (1 + r4), .int .i64 0, .int .i64 2000, .int .i64 2001] 2)).trans (hc5.below (by simp; omega) (.inl (Nat.le_refl _)))
  clear hc5 b4 i4 hr5 hs4
  go_wp2
  go_ret2
  exact ⟨_, xs, r5, rfl, p5, i5.out.1, by rw [heb]; exact b5⟩
theorem rev_poly {xs : List Int} (h : isPoly xs = true) : isPoly (trimL xs.reverse) = true := by
  obtain ⟨h1, _, h3⟩ := isPoly_true.1 h
  rw [trimL_isPoly _ (by rw [List.length_reverse]; exact h1), List.all_reverse]
  exact List.all_eq_true.2 h3
set_option maxHeartbeats 1600000 in
theorem DrawIsSymmetricPolynomial_any (B : Nat) (v : Value) (n : Nat) (w : World) (h : IsY w B v n) (hB : B ≤ w.heap.size) :
    Calls Tryd.prog 16 #[v] w fun e w' => ∃ v' xs, e = .returned v' ∧ Is w' w'.heap.size v' xs ∧ Below w.heap.size w w' := by
  go_enter Tryd.func16, Tryd.ntmps16
  go_wp2_with fail
  refine (l01From_any B v n _ h hB).mono ?_
  rintro e w1 ⟨rfl, hs1, hb1⟩
  have hz := hb1.size
  obtain ⟨b, heb⟩ : ∃ b, w.heap.size = b := ⟨_, rfl⟩
  have hbw : b < w1.heap.size := by rw [← heb]; exact hs1.here
  rw [heb] at hs1 hb1 hz ⊢
  go_wp2_with fail
  refine (l02Spoil_any B b _ hs1).mono ?_
  rintro e w2 ⟨v2, xs, rfl, o2, hs2, hc2⟩
  obtain ⟨A2, c2, rfl, hcc, hcm⟩ := o2.shape
  have i2 := Lib.hid (Ow.il (lo' := w1.heap.size) o2 (Nat.le_refl _))
  have b2 := hb1.trans (hc2.below hz (.inl (Nat.le_refl _)))
  have hz2 := hc2.size
  obtain ⟨m, Hm⟩ : ∃ m, Hid (xs.length = m) := ⟨_, Lib.hid rfl⟩
  rw [Hm.out] at i2 hcc ⊢
  clear hc2 hb1 o2
  go_wp2_with fail
  refine (l02Is_any _ _ xs _ i2.out.1 (Nat.le_refl _)).mono ?_
  rintro e w' ⟨rfl, rfl⟩
  cases hp : isPoly xs
  · go_wp2
    go_ret
    exact ⟨_, xs, rfl, i2.out.1, by first | exact b2 | (rw [heb]; exact b2)⟩
  · have Hp := Lib.hid hp
    clear hp
    by_cases h20 : m < 20
    · have h20' : decide ((m : Int) < 20) = true := decide_eq_true (by omega)
      clear h20
      go_wp2_with fail
      refine (l01Next_any B b 2 _ hs2 (by omega)).mono ?_
      rintro e w3 ⟨r3, rfl, hr3, hs3, hc3⟩
      have i3 := Lib.hid (i2.out.chg hc3 (by omega))
      have b3 := b2.trans (hc3.below (by omega) (.inl (Nat.le_refl _)))
      have hz3 := hc3.size
      clear hc3 b2 i2 hr3 hs2
      by_cases q0 : r3 = 0
      · have q0b : (r3 == 0) = true := beqT q0
        have hlx := Lib.hid (show xs.length < 1000000000 by have := (isPoly_true.1 Hp.out).1; omega)
        clear q0
        go_wp2_with fail
        refine (l02Reverse_any _ _ xs _ i3.out.1 (Nat.le_refl _) hlx.out).mono ?_
        rintro e w4 ⟨v4, rfl, o4, hb4⟩
        obtain ⟨R, HR⟩ : ∃ R, Hid (xs.reverse = R) := ⟨_, Lib.hid rfl⟩
        have HRp := Lib.hid (show isPoly (trimL R) = true by rw [← HR.out]; exact rev_poly Hp.out)
        have HRl := Lib.hid (show R.length < 1000000000 by rw [← HR.out, List.length_reverse]; exact hlx.out)
        rw [HR.out] at o4
        obtain ⟨Tm, HT⟩ : ∃ Tm, Hid (trimL R = Tm) := ⟨_, Lib.hid rfl⟩
        rw [HT.out] at HRp
        obtain ⟨A4, c4, rfl, _, _⟩ := o4.shape
        have i4 := Lib.hid o4.is
        have j4 := Lib.hid ((i3.out.1.below hb4).more hb4.size)
        have b4 := b3.trans (hb4.mono (by omega))
        have hz4 := hb4.size
        clear hb4 b3 i3 o4 hs3
        go_wp2_with fail
        refine (l02Trim_any _ _ R _ i4.out (Nat.le_refl _) HRl.out).mono ?_
        rintro e w5 ⟨v5, rfl, o5, hb5⟩
        rw [HT.out] at o5
        obtain ⟨A5, c5, rfl, _, _⟩ := o5.shape
        have i5 := Lib.hid o5.is
        have j5 := Lib.hid ((j4.out.below hb5).more hb5.size)
        have b5 := b4.trans (hb5.mono (by omega))
        have hz5 := hb5.size
        clear hb5 b4 i4 j4 o5
        go_wp2_with fail
        refine (l02Plus_any _ _ _ xs Tm 1 _ j5.out i5.out (Nat.le_refl _) Hp.out HRp.out (.inl rfl)).mono ?_
        rintro e w6 ⟨v6, rfl, o6, hb6⟩
        obtain ⟨Z, HZ⟩ : ∃ Z, Hid (trimL (addK xs 1 Tm) = Z) := ⟨_, Lib.hid rfl⟩
        rw [HZ.out] at o6
        obtain ⟨A6, c6, rfl, _, _⟩ := o6.shape
        have i6 := Lib.hid o6.is
        have b6 := b5.trans (hb6.mono (by omega))
        clear hb6 b5 i5 j5 o6
        go_wp2
        go_ret
        first
          | exact ⟨_, _, rfl, i6.out, b6⟩
          | exact ⟨_, _, rfl, i6.out, by rw [heb]; exact b6⟩
          | exact ⟨_, rfl, _, i6.out, b6⟩
          | exact ⟨_, rfl, _, i6.out, by rw [heb]; exact b6⟩
      · have q0b : (r3 == 0) = false := beqF q0
        clear q0
        go_wp2
        go_ret
        exact ⟨_, xs, rfl, i3.out.1, by first | exact b3 | (rw [heb]; exact b3)⟩
    · have h20' : decide ((m : Int) < 20) = false := decide_eq_false (by omega)
      clear h20
      go_wp2
      go_ret
      exact ⟨_, xs, rfl, i2.out.1, by first | exact b2 | (rw [heb]; exact b2)⟩
theorem strs_two (l : List ByteArray) (h : l.all (fun c => decide (c.size ≤ 2)) = true) (k : Nat) (hk : k < l.length) : ∃ c : ByteArray, (l.map Value.string)[k]? = some (.string c) ∧ c.size ≤ 2 := by
  refine ⟨l[k], by rw [List.getElem?_map, List.getElem?_eq_getElem hk]; rfl, ?_⟩
  have := (List.all_eq_true.1 h) _ (List.getElem_mem hk)
  simpa using this
def sg5 : List ByteArray := [⟨#[116]⟩, ⟨#[94]⟩, ⟨#[43, 116]⟩, ⟨#[45, 49]⟩, ⟨#[43, 48]⟩]
theorem sg5_two : sg5.all (fun c => decide (c.size ≤ 2)) = true := by decide
theorem ptx_size {xs : List Int} (hp : isPoly xs = true) (hl : xs.length ≤ 200) : (S (ptx xs)).size ≤ 6000 := by
  obtain ⟨h1, h2, h3⟩ := poly_bd hp
  rw [S_size]
  unfold ptx
  split
  · simp
  · have := pTd_len xs (by omega) h3 0 (Nat.zero_le _)
    omega
set_option maxHeartbeats 1600000 in
theorem DrawParsePolynomial_any (B : Nat) (v : Value) (n : Nat) (w : World) (h : IsY w B v n) (hB : B ≤ w.heap.size) (hn : n ≤ 4096) :
    Calls Tryd.prog 10 #[v] w fun e w' => ∃ s : ByteArray, e = .returned (.string s) ∧ s.size ≤ 15000000000000 ∧ Below w.heap.size w w' := by
  go_enter Tryd.func10, Tryd.ntmps10
  go_wp2_with fail
  refine (l01From_at B v n _ h hB).mono ?_
  rintro e w1 ⟨rfl, ⟨t1, h1, s1⟩, hb1⟩
  have hz1 := hb1.size
  obtain ⟨b, hb⟩ : ∃ b, w.heap.size = b := ⟨_, rfl⟩
  rw [hb] at s1 hb1 ⊢
  have hbw : b ≤ w1.heap.size := by omega
  go_wp2_with fail
  refine (l02Draw_n B b n 6 _ ⟨t1, h1, s1⟩ (by omega)).mono ?_
  rintro e w2 ⟨v2, xs, rfl, o2, hl2, hp2, s2, hc2⟩
  obtain ⟨A2, c2, rfl, _, _⟩ := o2.shape
  have i2 := Lib.hid o2.is
  have b2 := hb1.trans (hc2.below hbw (.inl (Nat.le_refl _)))
  have hz2 := hc2.size
  clear hb1 hc2 s1 o2
  go_wp2_with fail
  refine (l02Text_is _ _ xs _ i2.out (Nat.le_refl _) hp2).mono ?_
  rintro e w5 ⟨rfl, hb5⟩
  have b5 := b2.trans (hb5.mono (by omega))
  have hz5 := hb5.size
  have hsz := ptx_size hp2 hl2
  obtain ⟨t5, h5, s5⟩ := s2.later hb5
  have hm := mea_le n t5 h5
  clear hb5 s2 b2 i2 hp2 hl2
  go_wp2_with fail
  go_loopw [4] (fun x wr => ∃ (s : ByteArray) (t h : Nat), x = .string s ∧ SrcA wr B b n t h ∧ s.size + 2 * mea n t h ≤ 12000000000000 ∧ Below b w wr) (fun _ wr => meaW wr b n)
  case atStart => exact ⟨_, _, _, rfl, s5, by omega, b5⟩
  case round =>
    clear s5 b5 hsz hm
    obtain ⟨s, t, h, rfl, sr, hsm, br⟩ := hrel
    have hmr := sr.mea
    have hzr := br.size
    go_wp2_with fail
    refine (l01Next_at B b n _ _ 3 _ sr (by omega) (by omega)).mono ?_
    rintro e w6 ⟨r6, rfl, ⟨p0, p1⟩, hr6, s6, hc6⟩
    have b6 := br.trans (hc6.below (by omega) (.inl (Nat.le_refl _)))
    have hz6 := hc6.size
    clear hc6
    by_cases q0 : r6 = 0
    · have q0b : (r6 == 0) = true := beqT q0
      have hle := sr.le
      have Hstep := Lib.hid (fun g h1 h5 => mea_round (g := g) r6 hle hr6 q0 h1 h5)
      clear q0 p0 p1 sr br hr6
      go_wp2_with fail
      refine (l01Next_at B b n _ _ 3 _ s6 (by omega) (by omega)).mono ?_
      rintro e w7 ⟨r7, rfl, ⟨p0, p1⟩, _, s7, hc7⟩
      have s7 := s7.two
      have b7 := b6.trans (hc7.below (by omega) (.inl (Nat.le_refl _)))
      have hz7 := hc7.size
      clear hc7 s6 b6
      by_cases q1 : r7 = 0
      · have q1b : (r7 == 0) = true := beqT q1
        have hb7w := s7.here
        have s8 := s7.al (.cells (sg5.map Value.string).toArray 9)
        have own8 := lit_ownS (w := w7) hb7w (sg5.map Value.string).toArray 5 rfl (by omega)
        have b8 := b7.alloc (by omega) (.cells (sg5.map Value.string).toArray 9)
        clear q1 p0 p1 s7 b7
        go_wp2_with fail
        refine (l01Next_at B b n _ _ 5 _ s8 (by omega) (by omega)).mono ?_
        rintro e w9 ⟨r9, rfl, ⟨p2, p3⟩, _, s9, hc9⟩
        have s9 := s9.two
        have own9 := own_dr own8 hc9 (by omega)
        have b9 := b8.trans (hc9.below (by simp; omega) (.inl (Nat.le_refl _)))
        obtain ⟨k9, rfl⟩ := Int.eq_ofNat_of_zero_le p2
        have hk9 : k9 < 5 := by omega
        obtain ⟨c, hc, hcs⟩ := strs_two sg5 sg5_two k9 (show k9 < sg5.length from hk9)
        have hcell : w9.cell? ⟨w7.heap.size, k9, none⟩ = some (.string c) := by rw [own9.cellAt k9 (by omega)]; exact hc
        have hi2 : 0 ≤ (k9 : Int) ∧ (k9 : Int) < 5 := by omega
        have hstep := Hstep.out (1 + 1 + 1) (by omega) (by omega)
        have hm9 := s9.mea
        have hz9 : (s ++ c).size = s.size + c.size := ByteArray.size_append
        clear own8 own9 s8 hc9 hc p2 p3 b8
        go_wp2
        go_roundw
        case rel => exact ⟨s ++ c, _, _, rfl, s9, by omega, b9⟩
        case measure => omega
      · have q1b : (r7 == 0) = false := beqF q1
        clear q1 p0 p1
        go_wp2_with fail
        refine (l01Damage_at B b n _ _ s _ s7 (by omega)).mono ?_
        rintro e w8 ⟨s', rfl, hs', ⟨g, hg, s8⟩, hc8⟩
        have s8 := s8.two
        have b8 := b7.trans (hc8.below (by omega) (.inl (Nat.le_refl _)))
        have hstep := Hstep.out (1 + 1 + g) (by omega) (by omega)
        have hm8 := s8.mea
        clear hc8 s7 b7
        go_wp2
        go_roundw
        case rel => exact ⟨s', _, _, rfl, s8, by omega, b8⟩
        case measure => omega
    · have q0b : (r6 == 0) = false := beqF q0
      clear q0 p0 p1 sr br
      go_wp2
      go_ret
      exact ⟨s, rfl, by omega, by first | exact b6 | (rw [hb]; exact b6)⟩
end WF
end Go.Proofs.YtdfhkkngbpidaaaDoor
