/-
  WALKS, CHAPTER 2: a term read off a text by the program.
-/
import Derived.Test.YtdfhkkngbpidaaaDoorWlkZ2
import Derived.Deep.QuietTactic
namespace Go.Proofs.YtdfhkkngbpidaaaDoor
open Go.RowKit
set_option linter.unusedVariables false
namespace WZ
open K Pl WA WW WX
theorem head_b (s : ByteArray) (h : 0 < s.size) (x : UInt8) : ((((s[0]).toNat : Int)) == (x.toNat : Int)) = ((L s).head? == some x) := by
  rw [L_nat s 0 h, bx_head _ (by rw [L_len]; exact h)]
  by_cases e : bx (L s) 0 = x
  · rw [e]; simp
  · rw [bytes_ne e]; simp [e]
theorem head_bn (s : ByteArray) (h : 0 < s.size) (x : UInt8) : ((((s[0]).toNat : Int)) != (x.toNat : Int)) = !((L s).head? == some x) := by
  simp only [bne, head_b s h x]
theorem empT (l : List UInt8) (h : l = []) : (S l).toList.isEmpty = true := by rw [toList_L, L_S, h]; rfl
theorem empF (l : List UInt8) (h : l ≠ []) : (S l).toList.isEmpty = false := by rw [toList_L, L_S]; simpa using h
theorem S_pos {l : List UInt8} (h : l ≠ []) : 0 < (S l).size := by rw [S_size]; exact List.length_pos_iff.2 h
theorem S_drop1 (l : List UInt8) : S (l.drop 1) = (S l).extract 1 (S l).size := S_ext (by rw [L_extract, L_S, L_S, List.take_of_length_le (by simp [S_size])])
/-- What termOf returns. -/
def tmV (r : Option (Int × Nat × List UInt8)) : Value := match r with
  | none => .tuple #[.int .i64 0, .int .i64 0, .string (S []), .bool false]
  | some (c, k, s) => .tuple #[.int .i64 c, .int .i64 k, .string (S s), .bool true]
def Tm (r : Option (Int × Nat × List UInt8)) (w : World) (e : Ending) (w' : World) : Prop := e = .returned (tmV r) ∧ Below w.heap.size w w'
theorem Tm.none {r : Option (Int × Nat × List UInt8)} {w w' : World} (hr : r = .none) (hb : Below w.heap.size w w') : Tm r w (.returned (.tuple #[.int .i64 0, .int .i64 0, .string { data := #[] }, .bool false])) w' := by
  subst hr; exact ⟨rfl, hb⟩
theorem Tm.some {r : Option (Int × Nat × List UInt8)} {w w' : World} {c : Int} {k : Nat} {s : List UInt8} {v : ByteArray} (hr : r = .some (c, k, s)) (hv : v = S s) (hb : Below w.heap.size w w') : Tm r w (.returned (.tuple #[.int .i64 c, .int .i64 k, .string v, .bool true])) w' := by
  subst hr; subst hv; exact ⟨rfl, hb⟩
theorem sg_mul {sg : Int} (h : sg = 1 ∨ sg = -1) (c : Nat) (hc : c < 1000000000) : -9223372036854775808 ≤ sg * (c : Int) ∧ sg * (c : Int) ≤ 9223372036854775807 := by
  rcases h with rfl | rfl <;> omega
set_option maxHeartbeats 1600000 in
theorem termOf_any (l0 : List UInt8) (w : World) (hs : l0.length ≤ 20000000000000) : Calls Tryd.prog 26 #[.string (S l0)] w (Tm (tmR l0) w) := by
  go_enter Tryd.func26, Tryd.ntmps26
  go_upto_region 2 with fail
  go_cut [18] from 7 (fun t wx => t = .bool (isSg l0) ∧ w = wx)
  case first =>
    by_cases hE : l0 = []
    · have t1 := empT l0 hE
      have hP : isSg l0 = false := by rw [hE]; rfl
      clear hE
      go_wp2_with fail
      go_meet
      exact ⟨by rw [hP], rfl⟩
    · have t1 := empF l0 hE
      have h0 := S_pos hE
      have e1 : (((((S l0)[0]).toNat : Int)) == 43) = (l0.head? == some 43) := head_b (S l0) h0 43
      have e2 : (((((S l0)[0]).toNat : Int)) == 45) = (l0.head? == some 45) := head_b (S l0) h0 45
      have hP := Lib.hid (show isSg l0 = ((l0.head? == some 43) || (l0.head? == some 45)) from rfl)
      generalize (l0.head? == some 43) = b43 at *
      generalize (l0.head? == some 45) = b45 at *
      clear hE
      cases b43
      · go_wp2_with fail
        go_meet
        exact ⟨by rw [hP.out]; rfl, rfl⟩
      · go_wp2_with fail
        go_meet
        exact ⟨by rw [hP.out]; rfl, rfl⟩
  case rest =>
  obtain ⟨rfl, rfl⟩ := hcut
  go_upto_if 18 with fail
  go_cut [0, 6] from 7 (fun u v wx => u = .string (S (bodT l0)) ∧ v = .int .i64 (sgT l0) ∧ w = wx)
  case first =>
    cases hsg : isSg l0
    · have Hb := Lib.hid (show bodT l0 = l0 by unfold bodT; rw [hsg]; rfl)
      have Hs := Lib.hid (show sgT l0 = 1 by unfold sgT; rw [if_neg (fun e => by unfold isSg at hsg; rw [e] at hsg; simp at hsg)])
      clear hsg
      go_wp2_with fail
      go_meet
      exact ⟨by rw [Hb.out], by rw [Hs.out], rfl⟩
    · have hE : l0 ≠ [] := fun e => by rw [e] at hsg; cases hsg
      have h0 := S_pos hE
      have hi1 : (1 : Int) ≤ ((S l0).size : Int) := by omega
      have Hb := Lib.hid (show S (bodT l0) = (S l0).extract 1 (S l0).size by unfold bodT; rw [hsg]; exact S_drop1 l0)
      have e2 : (((((S l0)[0]).toNat : Int)) == 45) = (l0.head? == some 45) := head_b (S l0) h0 45
      have Hs := Lib.hid (show sgT l0 = if (l0.head? == some 45) = true then -1 else 1 by unfold sgT; simp)
      generalize (l0.head? == some 45) = b45 at *
      clear hsg hE
      cases b45
      · go_wp2_with fail
        go_meet
        exact ⟨by rw [Hb.out], by rw [Hs.out]; rfl, rfl⟩
      · go_wp2_with fail
        go_meet
        exact ⟨by rw [Hb.out], by rw [Hs.out]; rfl, rfl⟩
  case rest =>
  obtain ⟨rfl, rfl, rfl⟩ := hcut
  have hl := bodT_le l0
  have hsg : sgT l0 = 1 ∨ sgT l0 = -1 := by unfold sgT; split <;> simp
  have Hr := Lib.hid (show tmR l0 = (bR (bodT l0)).map fun x => (sgT l0 * (x.1 : Int), x.2.1, x.2.2) from rfl)
  generalize bodT l0 = l at *
  generalize sgT l0 = sg at *
  obtain ⟨P, HP⟩ : ∃ P : Bool, Hid (P = decide (l ≠ [] ∧ l.head? ≠ some 116)) := ⟨_, Lib.hid rfl⟩
  go_upto_region 7 with fail
  go_cut [30] from 7 (fun t wx => t = .bool P ∧ w = wx)
  case first =>
    by_cases hE : l = []
    · have t1 := empT l hE
      have hP : P = false := by rw [HP.out, hE]; simp
      clear hE
      go_wp2_with fail
      go_meet
      exact ⟨by rw [hP], rfl⟩
    · have t1 := empF l hE
      have h0 := S_pos hE
      have e1 : (((((S l)[0]).toNat : Int)) != 116) = !(l.head? == some 116) := head_bn (S l) h0 116
      have hP := Lib.hid (show P = !(l.head? == some 116) by rw [HP.out]; by_cases h : l.head? = some 116 <;> simp [hE, h])
      generalize (l.head? == some 116) = b at *
      clear hE
      go_wp2_with fail
      go_meet
      exact ⟨by rw [hP.out], rfl⟩
  case rest =>
  obtain ⟨rfl, rfl⟩ := hcut
  go_upto_if 30 with fail
  go_cut [0, 2] from 7 (fun u v wx => ∃ (c : Nat) (r : List UInt8), c < 1000000000 ∧ r.length ≤ 20000000000000 ∧ u = .string (S r) ∧ v = .int .i64 (c : Int) ∧ Hid (bR l = if r = [] then none else pwR c r) ∧ Below w.heap.size w wx)
  case first =>
    cases P
    · have Hb := Lib.hid (show bR l = if l = [] then none else pwR 1 l by
        have := of_decide_eq_false HP.out.symm
        unfold bR
        by_cases h : l = []
        · rw [if_pos h, if_pos h]
        · rw [if_neg h, if_neg h, if_pos (by by_cases h2 : l.head? = some 116; exact h2; exact absurd ⟨h, h2⟩ this)])
      clear HP
      go_wp2_with fail
      go_meet
      exact ⟨1, l, by omega, by omega, rfl, rfl, Hb, Below.refl _ _⟩
    · have hh := of_decide_eq_true HP.out.symm
      have hlb := dgR_bd l
      have Hb := Lib.hid (show bR l = if (dgR l).2.2 then (if (dgR l).2.1.head? = some 116 then pwR (dgR l).1 (dgR l).2.1 else some ((dgR l).1, 0, (dgR l).2.1)) else none by
        unfold bR; rw [if_neg hh.1, if_neg hh.2])
      have hrl : (dgR l).2.2 = true → (dgR l).2.1.length < l.length := dgR_lt
      clear HP hh
      have hdg := digitsOf_any (S l) w (by rw [S_size]; omega)
      rw [L_S] at hdg
      generalize (dgR l).1 = c at *
      generalize (dgR l).2.1 = r at *
      generalize (dgR l).2.2 = ok at *
      cases ok
      · go_wp2_with fail
        refine hdg.mono ?_
        rintro e w' ⟨rfl, n, rfl⟩
        have hbe : Below w.heap.size w (w.drewN n) := below_drewN (Below.refl _ _) n
        go_wp2_with fail
        exact bodyPost_ret (v := .tuple #[.int .i64 0, .int .i64 0, .string { data := #[] }, .bool false]) (by simp [results, Tryd.results26, go_sem]) rfl (Tm.none (by rw [Hr.out, Hb.out]; rfl) hbe)
      · have hrl2 := hrl rfl
        by_cases hE : r = []
        · have t1 := empT r hE
          have Hres := Lib.hid (show tmR l0 = some (sg * (c : Int), 0, r) by rw [Hr.out, Hb.out, hE]; rfl)
          have hm := sg_mul hsg c hlb
          clear hE
          go_wp2_with fail
          refine hdg.mono ?_
          rintro e w' ⟨rfl, n, rfl⟩
          have hbe : Below w.heap.size w (w.drewN n) := below_drewN (Below.refl _ _) n
          go_wp2_with fail
          exact bodyPost_ret (v := .tuple #[.int .i64 (sg * (c : Int)), .int .i64 0, .string (S r), .bool true]) (by simp [results, Tryd.results26, go_sem]) rfl (Tm.some (k := 0) (Hres.out) (rfl) hbe)
        · have t1 := empF r hE
          have h0 := S_pos hE
          have e1 : (((((S r)[0]).toNat : Int)) != 116) = !(r.head? == some 116) := head_bn (S r) h0 116
          by_cases hh : r.head? = some 116
          · have hb : (r.head? == some 116) = true := by simp [hh]
            rw [hb] at e1
            have Hb2 := Lib.hid (show bR l = if r = [] then none else pwR c r by rw [Hb.out, if_pos hh, if_neg hE]; rfl)
            clear hh hE hb
            go_wp2_with fail
            refine hdg.mono ?_
            rintro e w' ⟨rfl, n, rfl⟩
            have hbe : Below w.heap.size w (w.drewN n) := below_drewN (Below.refl _ _) n
            go_wp2_with fail
            go_meet
            exact ⟨c, r, hlb, by omega, rfl, rfl, Hb2, hbe⟩
          · have hb : (r.head? == some 116) = false := by simp [hh]
            rw [hb] at e1
            have Hres := Lib.hid (show tmR l0 = some (sg * (c : Int), 0, r) by rw [Hr.out, Hb.out, if_neg hh]; rfl)
            have hm := sg_mul hsg c hlb
            clear hh hE hb
            go_wp2_with fail
            refine hdg.mono ?_
            rintro e w' ⟨rfl, n, rfl⟩
            have hbe : Below w.heap.size w (w.drewN n) := below_drewN (Below.refl _ _) n
            go_wp2_with fail
            exact bodyPost_ret (v := .tuple #[.int .i64 (sg * (c : Int)), .int .i64 0, .string (S r), .bool true]) (by simp [results, Tryd.results26, go_sem]) rfl (Tm.some (k := 0) (Hres.out) (rfl) hbe)
  case rest =>
  obtain ⟨c, r, hc, hrl, rfl, rfl, Hb, hbe⟩ := hcut
  have hm := sg_mul hsg c hc
  clear hl HP
  by_cases hE : r = []
  · have t1 := empT r hE
    have Hres := Lib.hid (show tmR l0 = none by rw [Hr.out, Hb.out, if_pos hE]; rfl)
    clear hE
    go_wp2_with fail
    exact bodyPost_ret (v := .tuple #[.int .i64 0, .int .i64 0, .string { data := #[] }, .bool false]) (by simp [results, Tryd.results26, go_sem]) rfl (Tm.none (Hres.out) hbe)
  · have t1 := empF r hE
    have h0 := S_pos hE
    have hi1 : (1 : Int) ≤ ((S r).size : Int) := by omega
    have Hq := Lib.hid (show tmR l0 = (pwR c r).map fun x => (sg * (x.1 : Int), x.2.1, x.2.2) by rw [Hr.out, Hb.out, if_neg hE])
    have Hd := Lib.hid (S_drop1 r)
    clear hE Hr Hb
    go_upto_region 15 with fail
    go_cut [0, 3] from 7 (fun u v wx => u = .string (S (r.drop 1)) ∧ v = .int .i64 1 ∧ Below w.heap.size w wx)
    case first =>
      go_quiet (fail)
      go_wp2
      go_meet
      exact ⟨by rw [Hd.out], rfl, below_drewN hbe _⟩
    case rest =>
    obtain ⟨rfl, rfl, hbe2⟩ := hcut
    have Hq2 := Lib.hid (show tmR l0 = (if (r.drop 1).head? = some 94 then (if (dgR ((r.drop 1).drop 1)).2.2 then some (c, (dgR ((r.drop 1).drop 1)).1, (dgR ((r.drop 1).drop 1)).2.1) else none) else some (c, 1, r.drop 1)).map fun x => (sg * (x.1 : Int), x.2.1, x.2.2) by
      rw [Hq.out, List.drop_drop]; rfl)
    have hrl1 : (r.drop 1).length ≤ 20000000000000 := by rw [List.length_drop]; omega
    clear Hq Hd hrl h0 hi1 t1
    generalize r.drop 1 = q at *
    clear hbe
    obtain ⟨P2, HP2⟩ : ∃ P2 : Bool, Hid (P2 = (q.head? == some 94)) := ⟨_, Lib.hid rfl⟩
    go_upto_region 16 with fail
    go_cut [60] from 7 (fun t wx => t = .bool P2 ∧ wc = wx)
    case first =>
      by_cases hE : q = []
      · have t1 := empT q hE
        have hP : P2 = false := by rw [HP2.out, hE]; rfl
        clear hE
        go_wp2_with fail
        go_meet
        exact ⟨by rw [hP], rfl⟩
      · have t1 := empF q hE
        have h0 := S_pos hE
        have e1 : (((((S q)[0]).toNat : Int)) == 94) = (q.head? == some 94) := head_b (S q) h0 94
        rw [← HP2.out] at e1
        clear hE
        go_wp2_with fail
        go_meet
        exact ⟨rfl, rfl⟩
    case rest =>
    obtain ⟨rfl, rfl⟩ := hcut
    cases P2
    rotate_left
    · have hh : q.head? = some 94 := eq_of_beq HP2.out.symm
      clear HP2
      have hE : q ≠ [] := fun e => by rw [e] at hh; cases hh
      have h0 := S_pos hE
      have hi1 : (1 : Int) ≤ ((S q).size : Int) := by omega
      have hd := S_drop1 q
      have hdl : (S (q.drop 1)).size ≤ 20000000000000 := by rw [S_size, List.length_drop]; omega
      have Hq3 := Lib.hid (show tmR l0 = (if (dgR (q.drop 1)).2.2 then some (c, (dgR (q.drop 1)).1, (dgR (q.drop 1)).2.1) else none).map fun x => (sg * (x.1 : Int), x.2.1, x.2.2) by rw [Hq2.out, if_pos hh])
      have hdg := digitsOf_any (S (q.drop 1)) wc hdl
      rw [L_S, hd] at hdg
      generalize (dgR (q.drop 1)).1 = c2 at *
      generalize (dgR (q.drop 1)).2.1 = r2 at *
      generalize (dgR (q.drop 1)).2.2 = ok at *
      clear Hq2 hh hE hd hdl
      cases ok
      · go_wp2_with fail
        refine hdg.mono ?_
        rintro e w' ⟨rfl, n, rfl⟩
        have hbe3 := below_drewN hbe2 n
        go_wp2_with fail
        exact bodyPost_ret (v := .tuple #[.int .i64 0, .int .i64 0, .string { data := #[] }, .bool false]) (by simp [results, Tryd.results26, go_sem]) rfl (Tm.none (by rw [Hq3.out]; rfl) hbe3)
      · go_wp2_with fail
        refine hdg.mono ?_
        rintro e w' ⟨rfl, n, rfl⟩
        have hbe3 := below_drewN hbe2 n
        go_wp2_with fail
        exact bodyPost_ret (v := .tuple #[.int .i64 (sg * (c : Int)), .int .i64 (c2 : Int), .string (S r2), .bool true]) (by simp [results, Tryd.results26, go_sem]) rfl (Tm.some (k := c2) (by rw [Hq3.out]; rfl) (rfl) hbe3)
    · have hh : ¬ q.head? = some 94 := fun e => by have := HP2.out; rw [e] at this; simp at this
      clear HP2
      have Hq3 := Lib.hid (show tmR l0 = some (sg * (c : Int), 1, q) by rw [Hq2.out, if_neg hh]; rfl)
      clear Hq2 hh
      go_wp2_with fail
      exact bodyPost_ret (v := .tuple #[.int .i64 (sg * (c : Int)), .int .i64 1, .string (S q), .bool true]) (by simp [results, Tryd.results26, go_sem]) rfl (Tm.some (k := 1) (Hq3.out) (rfl) hbe2)
end WZ
end Go.Proofs.YtdfhkkngbpidaaaDoor
