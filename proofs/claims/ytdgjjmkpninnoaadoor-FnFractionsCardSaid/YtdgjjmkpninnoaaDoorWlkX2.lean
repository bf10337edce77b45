/-
  WALKS, CHAPTER 1: a text parsed to a fraction by the program.
-/
import Derived.Test.YtdgjjmkpninnoaaDoorWlkX1
namespace Go.Proofs.YtdgjjmkpninnoaaDoor
open Go.RowKit
set_option linter.unusedVariables false
namespace WX
open K Pl WA WW
/-- A variable's two cells; they may be written. -/
def Rf (w : World) (b : Nat) (x y : Value) : Prop := (w.cell? ⟨b, 0, none⟩ = some x ∧ w.cell? ⟨b, 1, none⟩ = some y) ∧ (w.frozen? ⟨b, 0, none⟩ = false ∧ w.frozen? ⟨b, 1, none⟩ = false)
section
variable {w w' wr : World} {b : Nat} {x y p q : Value}
theorem Rf.here (h : Rf w b x y) : b < w.heap.size := World.block_lt_of_cell? w ⟨b, 0, none⟩ h.1.1
theorem Rf.later (h : Rf w b x y) (hb : Below w.heap.size w w') : Rf w' b x y :=
  ⟨⟨(hb.cell (p := ⟨b, 0, none⟩) h.here).trans h.1.1, (hb.cell (p := ⟨b, 1, none⟩) h.here).trans h.1.2⟩, (hb.frozen (p := ⟨b, 0, none⟩) h.here).trans h.2.1, (hb.frozen (p := ⟨b, 1, none⟩) h.here).trans h.2.2⟩
theorem Rf.al (h : Rf w b x y) (o : Obj) : Rf (w.alloc o) b x y := h.later ((Below.refl _ _).alloc (Nat.le_refl _) o)
theorem Rf.dr (h : Rf w b x y) (n : Nat) : Rf (w.drewN n) b x y := h
theorem Rf.new (w : World) (x y : Value) (t : TypeId) : Rf (w.alloc (.cells #[x, y] t)) w.heap.size x y := ⟨⟨by simp [go_sem], by simp [go_sem]⟩, by simp [go_sem], by simp [go_sem]⟩
theorem Rf.fin (h : Rf wr b x y) (hw : w.heap.size ≤ b) (hbe : Below w.heap.size w wr) (p q : Value) :
    ((wr.setCell ⟨b, 0, none⟩ p).setCell ⟨b, 1, none⟩ q).cell? ⟨b, 0, none⟩ = some p ∧ ((wr.setCell ⟨b, 0, none⟩ p).setCell ⟨b, 1, none⟩ q).cell? ⟨b, 1, none⟩ = some q ∧ Below w.heap.size w ((wr.setCell ⟨b, 0, none⟩ p).setCell ⟨b, 1, none⟩ q) := by
  have h1 : (wr.setCell ⟨b, 0, none⟩ p).cell? ⟨b, 1, none⟩ = some y := (World.cell?_setCell_other wr ⟨b, 0, none⟩ ⟨b, 1, none⟩ p (by simp)).trans h.1.2
  refine ⟨(World.cell?_setCell_other _ ⟨b, 1, none⟩ ⟨b, 0, none⟩ q (by simp)).trans (World.cell?_setCell_same _ _ _ h.1.1), World.cell?_setCell_same _ _ _ h1, ?_⟩
  exact (hbe.setCell (p := ⟨b, 0, none⟩) hw _).setCell (p := ⟨b, 1, none⟩) hw _
theorem Rf.fin2 (h : Rf wr b x y) (hw : w.heap.size ≤ b) (hbe : Below w.heap.size w wr) (p q : Value) (o : Obj) :
    (((wr.setCell ⟨b, 0, none⟩ p).setCell ⟨b, 1, none⟩ q).alloc o).cell? ⟨b, 0, none⟩ = some p ∧ (((wr.setCell ⟨b, 0, none⟩ p).setCell ⟨b, 1, none⟩ q).alloc o).cell? ⟨b, 1, none⟩ = some q ∧ Below w.heap.size w (((wr.setCell ⟨b, 0, none⟩ p).setCell ⟨b, 1, none⟩ q).alloc o) := by
  obtain ⟨h1, h2, h3⟩ := Rf.fin h hw hbe p q
  have hb := h.here
  exact ⟨(World.cell?_alloc_lt _ o _ (by simpa using hb)).trans h1, (World.cell?_alloc_lt _ o _ (by simpa using hb)).trans h2, h3.alloc h3.size o⟩
end
/-- A fraction and a code. -/
def Ft (r : Int × Int × Int) (w : World) (e : Ending) (w' : World) : Prop := e = .returned (.tuple #[.agg #[.int .i64 r.1, .int .i64 r.2.1], .int .i64 r.2.2]) ∧ Below w.heap.size w w'
theorem Ft.mk {a b c : Int} {r : Int × Int × Int} {w w' : World} (h : r = (a, b, c)) (hb : Below w.heap.size w w') : Ft r w (.returned (.tuple #[.agg #[.int .i64 a, .int .i64 b], .int .i64 c])) w' := by subst h; exact ⟨rfl, hb⟩
/-- A number, or false. -/
def PuI (o : Option Int) (w : World) (e : Ending) (w' : World) : Prop := ∃ n : Int, e = .returned (.tuple #[.int .i64 n, .bool o.isSome]) ∧ (∀ a, o = some a → n = a) ∧ (-1000000000 < n ∧ n < 1000000000) ∧ ∃ k, w.drewN k = w'
theorem signedOf_any (s : ByteArray) (w : World) (hs : s.size ≤ 8000000000000) : Calls Tryd.prog 36 #[.string s] w (PuI (sgo (L s)) w) := by
  by_cases h0 : 0 < s.size
  · have e0 : decide ((0 : Int) < (s.size : Int)) = true := decide_eq_true (by omega)
    by_cases hm : bx (L s) 0 = 45
    · have hh : (L s).head? = some 45 := by rw [bx_head _ (by rw [L_len]; exact h0), hm]
      have e1 : (((s[0]'h0).toNat : Int) == 45) = true := by rw [L_at s 0 h0, hm]; rfl
      have Hd := Lib.hid (show L (s.extract 1 s.size) = (L s).drop 1 by rw [L_extract, List.take_of_length_le (by simp [L_len])])
      have Hsz := Lib.hid (show (s.extract 1 s.size).size ≤ 8000000000000 by rw [← L_len, Hd.out]; simp [L_len]; omega)
      have hi1 : (1 : Int) ≤ (s.size : Int) := by omega
      have hbn := nmI_lt ((L s).drop 1)
      clear hm
      cases hok : vlOk ((L s).drop 1)
      · have Hr := Lib.hid (sgo_minus_no hh (.inl hok))
        clear hh
        go_enter Tryd.func36, Tryd.ntmps36
        go_wp2_with fail
        refine (numberOf_any _ _ Hsz.out).mono ?_
        rintro e w' ⟨rfl, n, rfl⟩
        rw [Hd.out, hok]
        generalize nmI ((L s).drop 1) = y at *
        go_wp2_with fail
        go_ret2
        exact ⟨_, by rw [Hr.out]; rfl, fun a h => (by rw [Hr.out] at h; cases h), by omega, n, rfl⟩
      · by_cases hp : 0 < nmI ((L s).drop 1)
        · have Hr := Lib.hid (sgo_minus hh hok hp)
          have e2 : decide ((0 : Int) < nmI ((L s).drop 1)) = true := by simpa using hp
          clear hh
          go_enter Tryd.func36, Tryd.ntmps36
          go_wp2_with fail
          refine (numberOf_any _ _ Hsz.out).mono ?_
          rintro e w' ⟨rfl, n, rfl⟩
          rw [Hd.out, hok]
          generalize nmI ((L s).drop 1) = y at *
          go_wp2_with fail
          go_ret2
          exact ⟨_, by rw [Hr.out]; rfl, fun a h => (by rw [Hr.out] at h; exact Option.some.inj h), by omega, n, rfl⟩
        · have Hr := Lib.hid (sgo_minus_no hh (.inr hp))
          have e2 : decide ((0 : Int) < nmI ((L s).drop 1)) = false := by simpa using hp
          clear hh
          go_enter Tryd.func36, Tryd.ntmps36
          go_wp2_with fail
          refine (numberOf_any _ _ Hsz.out).mono ?_
          rintro e w' ⟨rfl, n, rfl⟩
          rw [Hd.out, hok]
          generalize nmI ((L s).drop 1) = y at *
          go_wp2_with fail
          go_ret2
          exact ⟨_, by rw [Hr.out]; rfl, fun a h => (by rw [Hr.out] at h; cases h), by omega, n, rfl⟩
    · have hh : (L s).head? ≠ some 45 := by rw [bx_head _ (by rw [L_len]; exact h0)]; intro e; exact hm (Option.some.inj e)
      have e1 : (((s[0]'h0).toNat : Int) == 45) = false := by rw [L_at s 0 h0]; exact bytes_ne (d := 45) hm
      have hbn := nmI_lt (L s)
      clear hm
      cases hok : vlOk (L s)
      · have Hr := Lib.hid (sgo_plus_no hh hok)
        clear hh
        go_enter Tryd.func36, Tryd.ntmps36
        go_wp2_with fail
        refine (numberOf_any s _ hs).mono ?_
        rintro e w' ⟨rfl, n, rfl⟩
        rw [hok]
        go_wp2_with fail
        go_ret2
        exact ⟨_, by rw [Hr.out]; rfl, fun a h => (by rw [Hr.out] at h; cases h), by omega, n, rfl⟩
      · have Hr := Lib.hid (sgo_plus hh hok)
        clear hh
        go_enter Tryd.func36, Tryd.ntmps36
        go_wp2_with fail
        refine (numberOf_any s _ hs).mono ?_
        rintro e w' ⟨rfl, n, rfl⟩
        rw [hok]
        go_wp2_with fail
        go_ret2
        exact ⟨_, by rw [Hr.out]; rfl, fun a h => (by rw [Hr.out] at h; exact Option.some.inj h), by omega, n, rfl⟩
  · have e0 : decide ((0 : Int) < (s.size : Int)) = false := decide_eq_false (by omega)
    have hh : (L s).head? ≠ some 45 := by rw [List.eq_nil_of_length_eq_zero (show (L s).length = 0 by rw [L_len]; omega)]; simp
    have hbn := nmI_lt (L s)
    cases hok : vlOk (L s)
    · have Hr := Lib.hid (sgo_plus_no hh hok)
      clear hh
      go_enter Tryd.func36, Tryd.ntmps36
      go_wp2_with fail
      refine (numberOf_any s _ hs).mono ?_
      rintro e w' ⟨rfl, n, rfl⟩
      rw [hok]
      go_wp2_with fail
      go_ret2
      exact ⟨_, by rw [Hr.out]; rfl, fun a h => (by rw [Hr.out] at h; cases h), by omega, n, rfl⟩
    · have Hr := Lib.hid (sgo_plus hh hok)
      clear hh
      go_enter Tryd.func36, Tryd.ntmps36
      go_wp2_with fail
      refine (numberOf_any s _ hs).mono ?_
      rintro e w' ⟨rfl, n, rfl⟩
      rw [hok]
      go_wp2_with fail
      go_ret2
      exact ⟨_, by rw [Hr.out]; rfl, fun a h => (by rw [Hr.out] at h; exact Option.some.inj h), by omega, n, rfl⟩
set_option maxHeartbeats 3200000 in
theorem ParseFraction_any (s : ByteArray) (w : World) (ht : Tab w) (hs : s.size ≤ 7000000000000) : Calls Tryd.prog 15 #[.string s] w (Ft (pfF (L s)) w) := by
  have hb1 : ∀ o, Below w.heap.size w (w.alloc o) := fun o => (Below.refl _ _).alloc (Nat.le_refl _) o
  have hbl := bef_len 47 (L s)
  have hhl := beh_len 47 (L s)
  rw [L_len] at hbl hhl
  go_enter Tryd.func15, Tryd.ntmps15
  go_wp2_with fail
  refine (parted_any s 47 _ rfl _ (by omega)).mono ?_
  rintro e w' ⟨rfl, n1, rfl⟩
  obtain ⟨W1, hW1⟩ : ∃ W1, W1 = (w.alloc (.cells #[.int .i64 0, .int .i64 0] 25)).drewN n1 := ⟨_, rfl⟩
  have rf1 : Rf W1 w.heap.size (.int .i64 0) (.int .i64 0) := by rw [hW1]; exact (Rf.new w _ _ _).dr n1
  have bw1 : Below w.heap.size w W1 := by rw [hW1]; exact below_drewN (hb1 _) n1
  have tb1 : Tab W1 := by rw [hW1]; exact (ht.al _).dr n1
  rw [← hW1]
  clear hW1 hb1 ht
  go_wp2_with fail
  refine (signedOf_any _ _ (by rw [S_size]; omega)).mono ?_
  rintro e w' ⟨a, rfl, hsa, hab, n2, rfl⟩
  rw [L_S] at *
  obtain ⟨WX, hWX⟩ : ∃ WX, WX = W1.drewN n2 := ⟨_, rfl⟩
  have rf : Rf WX w.heap.size (.int .i64 0) (.int .i64 0) := by rw [hWX]; exact rf1.dr n2
  have bw : Below w.heap.size w WX := by rw [hWX]; exact below_drewN bw1 n2
  have tb : Tab WX := by rw [hWX]; exact tb1.dr n2
  rw [← hWX]
  clear hWX rf1 bw1 tb1
  cases hsg : sgo (bef 47 (L s)) with
  | none =>
    have Hr := Lib.hid (pfI_none1 hsg)
    have U := Lib.hid (fun o => Rf.fin2 rf (Nat.le_refl _) bw (.int .i64 0) (.int .i64 0) o)
    have u0 := fun o => (U.out o).1
    have u1 := fun o => (U.out o).2.1
    have hsx : w.heap.size < WX.heap.size := rf.here
    have rc0 := rf.1.1
    have rc1 := rf.1.2
    have rc2 := rf.2.1
    have rc3 := rf.2.2
    cases hf : fnd 47 (L s)
    all_goals
      go_wp2_with fail
      exact bodyPost_ret (v := .tuple #[.agg #[.int .i64 0, .int .i64 0], .int .i64 6]) (by simp [results, Tryd.results15, go_sem, u0, u1]) rfl (Ft.mk Hr.out (U.out _).2.2)
  | some z =>
    obtain rfl : a = z := hsa z hsg
    have Hsg := Lib.hid hsg
    clear hsa hsg
    cases hf : fnd 47 (L s)
    · have HB := Lib.hid (boI_no hf)
      have HN := Lib.hid (Rf.new WX (.int .i64 a) (.int .i64 1) 25)
      have hn0 := HN.out.1.1
      have hn1 := HN.out.1.2
      have HQ := Lib.hid (show ∀ w6, Below (WX.alloc (.cells #[.int .i64 a, .int .i64 1] 25)).heap.size (WX.alloc (.cells #[.int .i64 a, .int .i64 1] 25)) w6 → Hid (Rf w6 w.heap.size (.int .i64 0) (.int .i64 0)) ∧ Hid (Rf w6 WX.heap.size (.int .i64 a) (.int .i64 1)) ∧ Tab w6 ∧ Hid (Below w.heap.size w w6) from fun w6 hb =>
        ⟨Lib.hid ((rf.al _).later hb), Lib.hid (HN.out.later hb), (tb.al _).later hb, Lib.hid ((bw.alloc bw.size _).trans (hb.mono (by have := bw.size; simp; omega)))⟩)
      have hsx : w.heap.size < WX.heap.size := rf.here
      clear rf bw tb HN
      cases hF : isFr a 1
      · have Hr := Lib.hid (pfI_no (t := L s) Hsg.out HB.out (.inl hF))
        go_wp2_with fail
        refine (isFraction_any a 1 _).mono ?_
        rintro e w6 ⟨rfl, hb6⟩
        rw [hF]
        obtain ⟨P0, _, _, P3⟩ := HQ.out _ hb6
        clear hb6 hn0 hn1 HQ
        obtain ⟨u0, u1, u2⟩ := Rf.fin P0.out (Nat.le_refl _) P3.out (.int .i64 0) (.int .i64 0)
        have U2 := Lib.hid u2
        have rc := P0.out
        have rc0 := rc.1.1
        have rc1 := rc.1.2
        have rc2 := rc.2.1
        have rc3 := rc.2.2
        clear u2 rc
        go_wp2_with fail
        exact bodyPost_ret (v := .tuple #[.agg #[.int .i64 0, .int .i64 0], .int .i64 6]) (by simp [results, Tryd.results15, go_sem, u0, u1]) rfl (Ft.mk Hr.out U2.out)
      · obtain ⟨ba, bb⟩ := isFr_bds hF
        go_wp2_with fail
        refine (isFraction_any a 1 _).mono ?_
        rintro e w6 ⟨rfl, hb6⟩
        rw [hF]
        obtain ⟨P0, P1, P2, P3⟩ := HQ.out _ hb6
        have p0 := P1.out.1.1
        have p1 := P1.out.1.2
        clear hb6 hn0 hn1 HQ
        go_wp2_with fail
        refine (fractionText_any a 1 _ P2 ba bb).mono ?_
        rintro e w7 ⟨rfl, hb7⟩
        have Q0 := Lib.hid (P0.out.later hb7)
        have Q1 := Lib.hid (P1.out.later hb7)
        have Q3 := Lib.hid (P3.out.trans (hb7.mono P3.out.size))
        have q0 := Q1.out.1.1
        have q1 := Q1.out.1.2
        clear hb7 p0 p1 P0 P1 P2 P3
        by_cases hx : txF a 1 = L s
        · have Hr := Lib.hid (pfI_yes (t := L s) Hsg.out HB.out hF hx)
          have t1 : ((S (txF a 1)).toList == s.toList) = true := by rw [toList_L, toList_L, L_S, hx]; simp
          have t2 : (S (txF a 1)).toList = s.toList := by rw [toList_L, toList_L, L_S, hx]
          clear hx
          generalize S (txF a 1) = tx at *
          obtain ⟨u0, u1, u2⟩ := Rf.fin Q0.out (Nat.le_refl _) Q3.out (.int .i64 a) (.int .i64 1)
          have U2 := Lib.hid u2
          have rc0 := Q0.out.1.1
          have rc1 := Q0.out.1.2
          have rc2 := Q0.out.2.1
          have rc3 := Q0.out.2.2
          clear u2
          go_wp2_with fail
          exact bodyPost_ret (v := .tuple #[.agg #[.int .i64 a, .int .i64 1], .int .i64 0]) (by simp [results, Tryd.results15, go_sem, u0, u1]) rfl (Ft.mk Hr.out U2.out)
        · have Hr := Lib.hid (pfI_no (t := L s) Hsg.out HB.out (.inr hx))
          have t1 : ((S (txF a 1)).toList == s.toList) = false := by rw [toList_L, toList_L, L_S]; simp [hx]
          have t2 : ¬ (S (txF a 1)).toList = s.toList := by rw [toList_L, toList_L, L_S]; exact hx
          clear hx
          generalize S (txF a 1) = tx at *
          obtain ⟨u0, u1, u2⟩ := Rf.fin Q0.out (Nat.le_refl _) Q3.out (.int .i64 0) (.int .i64 0)
          have U2 := Lib.hid u2
          have rc := Q0.out
          have rc0 := rc.1.1
          have rc1 := rc.1.2
          have rc2 := rc.2.1
          have rc3 := rc.2.2
          clear u2 rc
          go_wp2_with fail
          exact bodyPost_ret (v := .tuple #[.agg #[.int .i64 0, .int .i64 0], .int .i64 6]) (by simp [results, Tryd.results15, go_sem, u0, u1]) rfl (Ft.mk Hr.out U2.out)
    · cases hok : vlOk (beh 47 (L s))
      · have Hr := Lib.hid (pfI_none2 (boI_bad hf hok))
        go_wp2_with fail
        refine (numberOf_any _ _ (by rw [S_size]; omega)).mono ?_
        rintro e w' ⟨rfl, n3, rfl⟩
        rw [L_S, hok]
        have rf3 := rf.dr n3
        have bw3 := below_drewN bw n3
        generalize WX.drewN n3 = WY at *
        clear rf bw tb
        have U := Lib.hid (fun o => Rf.fin2 rf3 (Nat.le_refl _) bw3 (.int .i64 0) (.int .i64 0) o)
        have u0 := fun o => (U.out o).1
        have u1 := fun o => (U.out o).2.1
        have hsx : w.heap.size < WY.heap.size := rf3.here
        have rc0 := rf3.1.1
        have rc1 := rf3.1.2
        have rc2 := rf3.2.1
        have rc3 := rf3.2.2
        go_wp2_with fail
        exact bodyPost_ret (v := .tuple #[.agg #[.int .i64 0, .int .i64 0], .int .i64 6]) (by simp [results, Tryd.results15, go_sem, u0, u1]) rfl (Ft.mk Hr.out (U.out _).2.2)
      · have HB := Lib.hid (boI_got hf hok)
        have hbn := nmI_lt (beh 47 (L s))
        go_wp2_with fail
        refine (numberOf_any _ _ (by rw [S_size]; omega)).mono ?_
        rintro e w' ⟨rfl, n3, rfl⟩
        rw [L_S, hok]
        obtain ⟨WY, hWY⟩ : ∃ WY, WY = WX.drewN n3 := ⟨_, rfl⟩
        have rf3 : Rf WY w.heap.size (.int .i64 0) (.int .i64 0) := by rw [hWY]; exact rf.dr n3
        have bw3 : Below w.heap.size w WY := by rw [hWY]; exact below_drewN bw n3
        have tb3 : Tab WY := by rw [hWY]; exact tb.dr n3
        rw [← hWY]
        clear hWY rf bw tb
        generalize nmI (beh 47 (L s)) = b at *
        have rf := rf3
        have bw := bw3
        have tb := tb3
        clear rf3 bw3 tb3
        have HN := Lib.hid (Rf.new WY (.int .i64 a) (.int .i64 b) 25)
        have hn0 := HN.out.1.1
        have hn1 := HN.out.1.2
        have HQ := Lib.hid (show ∀ w6, Below (WY.alloc (.cells #[.int .i64 a, .int .i64 b] 25)).heap.size (WY.alloc (.cells #[.int .i64 a, .int .i64 b] 25)) w6 → Hid (Rf w6 w.heap.size (.int .i64 0) (.int .i64 0)) ∧ Hid (Rf w6 WY.heap.size (.int .i64 a) (.int .i64 b)) ∧ Tab w6 ∧ Hid (Below w.heap.size w w6) from fun w6 hb =>
          ⟨Lib.hid ((rf.al _).later hb), Lib.hid (HN.out.later hb), (tb.al _).later hb, Lib.hid ((bw.alloc bw.size _).trans (hb.mono (by have := bw.size; simp; omega)))⟩)
        have hsx : w.heap.size < WY.heap.size := rf.here
        clear rf bw tb HN
        cases hF : isFr a b
        · have Hr := Lib.hid (pfI_no (t := L s) Hsg.out HB.out (.inl hF))
          go_wp2_with fail
          refine (isFraction_any a b _).mono ?_
          rintro e w6 ⟨rfl, hb6⟩
          rw [hF]
          obtain ⟨P0, _, _, P3⟩ := HQ.out _ hb6
          clear hb6 hn0 hn1 HQ
          obtain ⟨u0, u1, u2⟩ := Rf.fin P0.out (Nat.le_refl _) P3.out (.int .i64 0) (.int .i64 0)
          have U2 := Lib.hid u2
          have rc := P0.out
          have rc0 := rc.1.1
          have rc1 := rc.1.2
          have rc2 := rc.2.1
          have rc3 := rc.2.2
          clear u2 rc
          go_wp2_with fail
          exact bodyPost_ret (v := .tuple #[.agg #[.int .i64 0, .int .i64 0], .int .i64 6]) (by simp [results, Tryd.results15, go_sem, u0, u1]) rfl (Ft.mk Hr.out U2.out)
        · obtain ⟨ba, bb⟩ := isFr_bds hF
          go_wp2_with fail
          refine (isFraction_any a b _).mono ?_
          rintro e w6 ⟨rfl, hb6⟩
          rw [hF]
          obtain ⟨P0, P1, P2, P3⟩ := HQ.out _ hb6
          have p0 := P1.out.1.1
          have p1 := P1.out.1.2
          clear hb6 hn0 hn1 HQ
          go_wp2_with fail
          refine (fractionText_any a b _ P2 ba bb).mono ?_
          rintro e w7 ⟨rfl, hb7⟩
          have Q0 := Lib.hid (P0.out.later hb7)
          have Q1 := Lib.hid (P1.out.later hb7)
          have Q3 := Lib.hid (P3.out.trans (hb7.mono P3.out.size))
          have q0 := Q1.out.1.1
          have q1 := Q1.out.1.2
          clear hb7 p0 p1 P0 P1 P2 P3
          by_cases hx : txF a b = L s
          · have Hr := Lib.hid (pfI_yes (t := L s) Hsg.out HB.out hF hx)
            have t1 : ((S (txF a b)).toList == s.toList) = true := by rw [toList_L, toList_L, L_S, hx]; simp
            have t2 : (S (txF a b)).toList = s.toList := by rw [toList_L, toList_L, L_S, hx]
            clear hx
            generalize S (txF a b) = tx at *
            obtain ⟨u0, u1, u2⟩ := Rf.fin Q0.out (Nat.le_refl _) Q3.out (.int .i64 a) (.int .i64 b)
            have U2 := Lib.hid u2
            have rc0 := Q0.out.1.1
            have rc1 := Q0.out.1.2
            have rc2 := Q0.out.2.1
            have rc3 := Q0.out.2.2
            clear u2
            go_wp2_with fail
            exact bodyPost_ret (v := .tuple #[.agg #[.int .i64 a, .int .i64 b], .int .i64 0]) (by simp [results, Tryd.results15, go_sem, u0, u1]) rfl (Ft.mk Hr.out U2.out)
          · have Hr := Lib.hid (pfI_no (t := L s) Hsg.out HB.out (.inr hx))
            have t1 : ((S (txF a b)).toList == s.toList) = false := by rw [toList_L, toList_L, L_S]; simp [hx]
            have t2 : ¬ (S (txF a b)).toList = s.toList := by rw [toList_L, toList_L, L_S]; exact hx
            clear hx
            generalize S (txF a b) = tx at *
            obtain ⟨u0, u1, u2⟩ := Rf.fin Q0.out (Nat.le_refl _) Q3.out (.int .i64 0) (.int .i64 0)
            have U2 := Lib.hid u2
            have rc := Q0.out
            have rc0 := rc.1.1
            have rc1 := rc.1.2
            have rc2 := rc.2.1
            have rc3 := rc.2.2
            clear u2 rc
            go_wp2_with fail
            exact bodyPost_ret (v := .tuple #[.agg #[.int .i64 0, .int .i64 0], .int .i64 6]) (by simp [results, Tryd.results15, go_sem, u0, u1]) rfl (Ft.mk Hr.out U2.out)
end WX
end Go.Proofs.YtdgjjmkpninnoaaDoor
