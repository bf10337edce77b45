/-
  WALKS, CHAPTER 2: ParsePolynomial by the program.
-/
import Derived.Test.YtdfhkkngbpidaaaDoorWlkZ3
import Derived.Test.YtdfhkkngbpidaaaDoorWlkB2
namespace Go.Proofs.YtdfhkkngbpidaaaDoor
open Go.RowKit
set_option linter.unusedVariables false
namespace WZ
open K Pl WA WW WB WX
theorem ppF_none {l : List UInt8} (h48 : l ≠ [48]) (h : ppL l zer = none) : ppF l = ([], 6) := by unfold ppF; rw [if_neg h48, h]
theorem ppF_some {l : List UInt8} {out : List Int} (h48 : l ≠ [48]) (h : ppL l zer = some out) : ppF l = if (trimL out).length = 0 then ([], 6) else if ptx (trimL out) = l then (trimL out, 0) else ([], 6) := by unfold ppF; rw [if_neg h48, h]
set_option maxHeartbeats 1600000 in
theorem ParsePolynomial_S (l : List UInt8) (w : World) (ht : Tab w) (hs : l.length ≤ 20000000000000) : Calls Tryd.prog 8 #[.string (S l)] w (Li2 (ppF l) w) := by
  obtain ⟨i0, hi, hz0, hz1, hz2⟩ := info_parts info64
  have Hi := Lib.hid hi; have Hz0 := Lib.hid hz0; have Hz1 := Lib.hid hz1; have Hz2 := Lib.hid hz2
  clear hi hz0 hz1 hz2
  by_cases h48 : l = [48]
  · have Hr := Lib.hid (show ppF l = ([], 0) by unfold ppF; rw [if_pos h48])
    have e1 : ((S l).toList == [48]) = true := by rw [toList_L, L_S, h48]; rfl
    clear h48
    have hown0 : Ow (w.alloc (.cells #[] 2)) w.heap.size (w.alloc (.cells #[] 2)).heap.size (.slice (some ⟨w.heap.size, 0, none⟩) 0 0) [] := Ow.of_own (World.ownsRow_lit w #[] 0 (Nat.le_refl _) (by decide) rfl)
    go_enter Tryd.func8, Tryd.ntmps8
    go_wp2_with fail
    go_ret2
    exact ⟨.slice (some ⟨w.heap.size, 0, none⟩) 0 0, by rw [Hr.out]; rfl, by rw [Hr.out]; exact hown0, (Below.refl _ _).alloc (Nat.le_refl _) _⟩
  · have Hrn := Lib.hid (fun h => ppF_none (l := l) h48 h)
    have Hrs := Lib.hid (fun out h => ppF_some (l := l) (out := out) h48 h)
    have e1 : ((S l).toList == [48]) = false := by rw [toList_L, L_S]; simpa using h48
    clear h48
    go_enter Tryd.func8, Tryd.ntmps8
    go_wp2_with (at_make; refine wpList_make_full _ rfl _ _ 24 rfl w.heap.size 2 i0 (.int .i64 0) 1 Tryd.underlying24 Hi.out Hz0.out Hz1.out _ _ _ _ 2001 rfl rfl rfl rfl ?b ?c ?d ?_)
    case b => rw [Hz2.out]; omega
    case c => unfold maxLen; omega
    case d => simp
    intro w1 hown hgrow
    have hbw : Below w.heap.size w w1 := (Below.refl _ _).grown hgrow (Nat.le_refl _) (by simp)
    have Hown0 := Lib.hid (show w1.ownsRow w.heap.size 2 1 (.slice (some ⟨w.heap.size, 0, none⟩) 2001 2001) 2001 (zer.map (Value.int .i64)) by
      unfold zer; rw [List.map_replicate]
      have e : (madeCells (Value.int IntKind.i64 0).cells (2001 * 1)).toList = List.replicate 2001 (Value.int .i64 0) := by
        rw [Nat.mul_one]; exact toList_madeCells_one _ 2001
      rw [← e, Nat.mul_one]; exact hown)
    clear hown hgrow
    go_wp2_with fail
    go_loopw [5] (fun u wr => ∃ (r : List UInt8) (out : List Int), u = .string (S r) ∧ r.length ≤ l.length ∧ Hid (out.length = 2001) ∧ Hid (ppL l zer = ppL r out) ∧ Hid (wr.ownsRow w.heap.size 2 1 (.slice (some ⟨w.heap.size, 0, none⟩) 2001 2001) 2001 (out.map (Value.int .i64))) ∧ Below w.heap.size w wr) (fun u _ => strSz u)
    case atStart => exact ⟨l, zer, rfl, Nat.le_refl _, Lib.hid zer_len, Lib.hid rfl, Hown0, hbw⟩
    case round =>
      obtain ⟨r, out, rfl, hrl, Hol, Hpl, hown, hbe⟩ := hrel
      clear Hown0 hbw
      by_cases hE : r = []
      · have t1 := empT r hE
        rw [hE, ppL_nil] at Hpl
        have Hrs2 := Lib.hid (Hrs.out out Hpl.out)
        obtain ⟨hol, hoc⟩ := ppL_out Hpl.out
        have hq1 := trimL_last out
        have hq2 : (trimL out).length ≤ 2001 := by have := trimL_len out; omega
        have hpoly := isPoly_of hq2 hq1 (fun c hc => hoc c (trimL_mem hc))
        have how : Ow wr w.heap.size wr.heap.size (.slice (some ⟨w.heap.size, 0, none⟩) 2001 2001) out := Ow.of_own hown.out
        clear hE hoc hq1 Hpl Hrn Hrs hown Hol
        go_wp2_with fail
        refine (trimmed_any _ _ _ _ _ how).mono ?_
        rintro e w2 ⟨v2, rfl, how2, rfl⟩
        generalize trimL out = q at *
        clear how
        go_wp2_with fail
        refine (Clone_any _ _ _ _ how2.is (Nat.le_refl _) (by omega)).mono ?_
        rintro e w3 ⟨v3, rfl, how3, hb3⟩
        have hbe3 := hbe.trans (hb3.mono hbe.size)
        obtain ⟨A3, c3, rfl, hnc3, hcm3⟩ := how3.shape
        have ht3 := ht.later hbe3
        have hsz2 := hbe.size
        clear how2 hb3 hbe
        rcases Nat.eq_zero_or_pos q.length with hq0 | hq0
        · have t2 : ((q.length : Int) == 0) = true := beqT (by omega)
          have Hr := Lib.hid (show ppF l = ([], 6) by rw [Hrs2.out, if_pos hq0])
          clear hq0
          go_wp2_with fail
          go_ret2
          exact Li2.nil Hr.out hbe3
        · have t2 : ((q.length : Int) == 0) = false := beqF (by omega)
          have Hr := Lib.hid (show ppF l = if ptx q = l then (q, 0) else ([], 6) by rw [Hrs2.out, if_neg (by omega)])
          clear hq0
          by_cases hT : ptx q = l
          · have Hr2 := Lib.hid (show ppF l = (q, 0) by rw [Hr.out, if_pos hT])
            have t3 : ((S (ptx q)).toList == (S l).toList) = true := by rw [hT]; simp
            clear Hr hT Hrs2
            go_wp2_with fail
            refine (polynomialText_is _ _ q _ how3.is (Nat.le_refl _) ht3 hpoly).mono ?_
            rintro e w4 ⟨rfl, hb4⟩
            have hbe4 := hbe3.trans (hb4.mono hbe3.size)
            have how4 := (how3.later hb4).wide (lo' := w.heap.size) (hi' := w4.heap.size) hsz2 (hb4.size)
            clear hb4 how3 ht3
            generalize S (ptx q) = y at *
            go_wp2_with fail
            go_ret2
            exact ⟨.slice A3 q.length c3, by rw [Hr2.out]; rfl, by rw [Hr2.out]; exact how4, hbe4⟩
          · have Hr2 := Lib.hid (show ppF l = ([], 6) by rw [Hr.out, if_neg hT])
            have t3 : ((S (ptx q)).toList == (S l).toList) = false := by rw [toList_L, toList_L, L_S, L_S]; simpa using hT
            clear Hr hT Hrs2
            go_wp2_with fail
            refine (polynomialText_is _ _ q _ how3.is (Nat.le_refl _) ht3 hpoly).mono ?_
            rintro e w4 ⟨rfl, hb4⟩
            have hbe4 := hbe3.trans (hb4.mono hbe3.size)
            clear hb4 how3 ht3
            generalize S (ptx q) = y at *
            go_wp2_with fail
            go_ret2
            exact Li2.nil Hr2.out hbe4
      · have t1 := empF r hE
        rcases htm : tmR r with _ | ⟨c, k, r2⟩
        · have Hr := Lib.hid (Hrn.out (by rw [Hpl.out]; exact ppL_none hE htm out))
          have hterm : Calls Tryd.prog 26 #[.string (S r)] wr fun e w' => e = .returned (.tuple #[.int .i64 0, .int .i64 0, .string (S []), .bool false]) ∧ Below wr.heap.size wr w' := by
            have := termOf_any r wr (by omega)
            rw [htm] at this; exact this
          clear htm hE Hrs Hrn Hpl
          go_wp2_with fail
          refine hterm.mono ?_
          rintro e w2 ⟨rfl, hb2⟩
          have hbe2 := hbe.trans (hb2.mono hbe.size)
          go_wp2_with fail
          go_ret2
          exact Li2.nil Hr.out hbe2
        · have hterm : Calls Tryd.prog 26 #[.string (S r)] wr fun e w' => e = .returned (.tuple #[.int .i64 c, .int .i64 k, .string (S r2), .bool true]) ∧ Below wr.heap.size wr w' := by
            have := termOf_any r wr (by omega)
            rw [htm] at this; exact this
          have hr2 := tmR_lt htm
          have hbd := tmR_bd htm
          by_cases hk : 2000 < k
          · have Hr := Lib.hid (Hrn.out (by rw [Hpl.out]; exact ppL_big hE htm hk out))
            have t2 : decide ((2000 : Int) < (k : Int)) = true := decide_eq_true (by omega)
            clear htm hE Hrs Hrn Hpl hk
            go_wp2_with fail
            refine hterm.mono ?_
            rintro e w2 ⟨rfl, hb2⟩
            have hbe2 := hbe.trans (hb2.mono hbe.size)
            go_wp2_with fail
            go_ret2
            exact Li2.nil Hr.out hbe2
          · have Hpl2 := Lib.hid (show ppL l zer = ppL r2 (out.set k c) by rw [Hpl.out]; exact ppL_step hE htm hk out)
            have t2 : decide ((2000 : Int) < (k : Int)) = false := decide_eq_false (by omega)
            clear htm hE Hrs Hrn Hpl
            go_wp2_with fail
            refine hterm.mono ?_
            rintro e w2 ⟨rfl, hb2⟩
            have hbe2 := hbe.trans (hb2.mono hbe.size)
            have hown2 := own_later hown.out hb2
            have hfr := hown2.frozenAt k
            have Hol2 := Lib.hid (show (out.set k c).length = 2001 by rw [List.length_set]; exact Hol.out)
            obtain ⟨old, hold⟩ : ∃ old, w2.cell? ⟨w.heap.size, k, none⟩ = some old := by
              rw [hown2.cellAt k (by omega)]
              exact ⟨_, List.getElem?_eq_getElem (by rw [List.length_map, Hol.out]; omega)⟩
            have hst := hown2.stored k (.int .i64 c)
            have Hst := Lib.hid (show (w2.setCell ⟨w.heap.size, k, none⟩ (.int .i64 c)).ownsRow w.heap.size 2 1 (.slice (some ⟨w.heap.size, 0, none⟩) 2001 2001) 2001 ((out.set k c).map (Value.int .i64)) by
              have e := hst.1
              rw [← List.map_set] at e; exact e)
            have hbe3 : Below w.heap.size w (w2.setCell ⟨w.heap.size, k, none⟩ (.int .i64 c)) := hbe2.setCell (Nat.le_refl _) _
            have hi1 : 0 ≤ (k : Int) ∧ (k : Int) < 2001 := by omega
            clear hst hown hown2 hbe hbe2 hb2 Hol
            go_wp2_with fail
            exact ⟨⟨r2, out.set k c, rfl, by omega, Hol2, Hpl2, Hst, hbe3⟩, by rw [strSz_mk, strSz_mk, S_size, S_size]; exact hr2⟩
theorem ParsePolynomial_any (s : ByteArray) (w : World) (hs : s.size ≤ 20000000000000) (ht : Tab w) : Calls Tryd.prog 8 #[.string s] w (Li2 (ppF (L s)) w) := by
  have h := ParsePolynomial_S (L s) w ht (by rw [L_len]; exact hs)
  rw [S_L] at h; exact h
end WZ
end Go.Proofs.YtdfhkkngbpidaaaDoor
