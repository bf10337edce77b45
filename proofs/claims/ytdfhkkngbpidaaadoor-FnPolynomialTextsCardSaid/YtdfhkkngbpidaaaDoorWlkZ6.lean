/-
  WALKS, CHAPTER 2: ParsePolynomial by the reference.
-/
import Derived.Test.YtdfhkkngbpidaaaDoorWlkZ3
import Derived.Test.YtdfhkkngbpidaaaDoorWlkZ5
import Derived.Test.YtdfhkkngbpidaaaDoorWlkB4
namespace Go.Proofs.YtdfhkkngbpidaaaDoor
open Go.RowKit
set_option linter.unusedVariables false
namespace WZ
open K Pl WA WW WB WX
theorem head_at (s : ByteArray) (a : Nat) (h : a < s.size) (x : UInt8) : ((((s[a]).toNat : Int)) == (x.toNat : Int)) = (((L s).drop a).head? == some x) := by
  rw [L_nat s a h, bx_head _ (by rw [List.length_drop, L_len]; omega), bx_drop, Nat.add_zero]
  by_cases e : bx (L s) a = x
  · rw [e]; simp
  · rw [bytes_ne e]; simp [e]
theorem drop_emp (s : ByteArray) (a : Nat) (h : ¬ a < s.size) (x : UInt8) : (((L s).drop a).head? == some x) = false := by
  rw [List.drop_of_length_le (by rw [L_len]; omega)]; rfl
theorem drop_add (s : ByteArray) (a b : Nat) : ((L s).drop a).drop b = (L s).drop (a + b) := List.drop_drop
theorem ppS_none {l : List UInt8} (h : psL l [] = none) : ppS l = ([], 6) := by unfold ppS; rw [h]
theorem ppS_some {l : List UInt8} {p : List Int} (h : psL l [] = some p) : ppS l = if isPoly (trimL p) && (ptx (trimL p) == l) then (trimL p, 0) else ([], 6) := by unfold ppS; rw [h]
def lenV : Value → Nat
  | .slice _ n _ => n
  | _ => 0
theorem lenV_mk (A : Option Addr) (n c : Nat) : lenV (.slice A n c) = n := rfl
theorem ext_app {p : List Int} {k : Nat} (h : p.length ≤ k) : ext (p ++ [0]) k = ext p k := by
  unfold ext
  rw [List.length_append, List.length_singleton, List.append_assoc]
  congr 1
  rw [show k + 1 - p.length = (k + 1 - (p.length + 1)) + 1 by omega, List.replicate_succ]; rfl
theorem ext_end {p : List Int} {k : Nat} (h : ¬ p.length ≤ k) : ext p k = p := by
  unfold ext; rw [show k + 1 - p.length = 0 by omega]; simp
set_option maxRecDepth 20000 in
set_option maxHeartbeats 3200000 in
theorem sParsePolynomial_any (s : ByteArray) (w : World) (hs : s.size ≤ 1000000000) : Calls Tryd.prog 11 #[.string s] w (Li2 (ppF (L s)) w) := by
  rw [← ppS_eq]
  have Hrn := Lib.hid (fun h => ppS_none (l := L s) h)
  have Hrs := Lib.hid (fun p h => ppS_some (l := L s) (p := p) h)
  have Hlen := Lib.hid (L_len s)
  have Hown0 := Lib.hid (show (w.alloc (.cells #[] 2)).ownsRow w.heap.size 2 1 (.slice (some ⟨w.heap.size, 0, none⟩) 0 0) ([] : List Int).length (([] : List Int).map (Value.int .i64)) from World.ownsRow_lit w #[] 0 (Nat.le_refl _) (by decide) rfl)
  have hbw : Below w.heap.size w (w.alloc (.cells #[] 2)) := (Below.refl _ _).alloc (Nat.le_refl _) _
  go_enter Tryd.func11, Tryd.ntmps11
  go_wp2_with fail
  go_loopw [4, 5] (fun v i wr => ∃ (a : Nat) (p : List Int), i = .int .i64 a ∧ a ≤ s.size ∧ p.length ≤ 2001 ∧ Hid (psL (L s) [] = psL ((L s).drop a) p) ∧ Hid (∀ k, -((a : Int) * 1000000000) ≤ gx p k ∧ gx p k ≤ (a : Int) * 1000000000) ∧ Hid (wr.ownsRow w.heap.size 2 1 v p.length (p.map (Value.int .i64))) ∧ Below w.heap.size w wr) (fun _ i _ => s.size - (intOf i).toNat)
  case atStart => exact ⟨0, [], rfl, Nat.zero_le _, by simp, Lib.hid rfl, Lib.hid (fun k => by simp [gx]), Hown0, hbw⟩
  case round =>
    obtain ⟨a, p, rfl, ha, hpl, Hps, Hbd, Hown, hbe⟩ := hrel
    clear Hown0 hbw
    by_cases hlt : a < s.size
    · have hrne : (L s).drop a ≠ [] := fun e => by have := congrArg List.length e; rw [List.length_drop, Hlen.out] at this; simp at this; omega
      have Hrne := Lib.hid hrne
      clear hrne
      go_upto_region 4 with fail
      go_cut [26] from 13 to 103 (fun t wx => t = .bool (isSg ((L s).drop a)) ∧ wr = wx)
      case first =>
        have e1 : (((((s)[a]).toNat : Int)) == 43) = (((L s).drop a).head? == some 43) := head_at s a hlt 43
        have e2 : (((((s)[a]).toNat : Int)) == 45) = (((L s).drop a).head? == some 45) := head_at s a hlt 45
        have hP := Lib.hid (show isSg ((L s).drop a) = ((((L s).drop a).head? == some 43) || (((L s).drop a).head? == some 45)) from rfl)
        generalize (((L s).drop a).head? == some 43) = b43 at *
        generalize (((L s).drop a).head? == some 45) = b45 at *
        cases b43
        · go_wp2_with fail
          go_meet
          exact ⟨by rw [hP.out]; rfl, rfl⟩
        · go_wp2_with fail
          go_meet
          exact ⟨by rw [hP.out]; rfl, rfl⟩
      case rest =>
      obtain ⟨rfl, rfl⟩ := hcut
      go_upto_if 26 with fail
      go_cut [5, 6] from 13 to 103 (fun u v wx => ∃ a1 : Nat, a ≤ a1 ∧ a1 ≤ s.size ∧ u = .int .i64 a1 ∧ v = .int .i64 (sgT ((L s).drop a)) ∧ Hid ((L s).drop a1 = bodT ((L s).drop a)) ∧ wr = wx)
      case first =>
        cases hsg : isSg ((L s).drop a)
        · have Hb := Lib.hid (show (L s).drop a = bodT ((L s).drop a) by unfold bodT; rw [hsg]; rfl)
          have Hs := Lib.hid (show sgT ((L s).drop a) = 1 by unfold sgT; rw [if_neg (fun e => by unfold isSg at hsg; rw [e] at hsg; simp at hsg)])
          clear hsg
          go_wp2_with fail
          go_meet
          exact ⟨a, Nat.le_refl _, ha, rfl, by rw [Hs.out], Hb, rfl⟩
        · have Hb := Lib.hid (show (L s).drop (a + 1) = bodT ((L s).drop a) by unfold bodT; rw [hsg]; exact (drop_add s a 1).symm)
          have e2 : (((((s)[a]).toNat : Int)) == 45) = (((L s).drop a).head? == some 45) := head_at s a hlt 45
          have Hs := Lib.hid (show sgT ((L s).drop a) = if (((L s).drop a).head? == some 45) = true then -1 else 1 by unfold sgT; simp)
          generalize (((L s).drop a).head? == some 45) = b45 at *
          clear hsg
          cases b45
          · go_wp2_with fail
            go_meet
            exact ⟨a + 1, by omega, by omega, by go_num, by rw [Hs.out]; rfl, Hb, rfl⟩
          · go_wp2_with fail
            go_meet
            exact ⟨a + 1, by omega, by omega, by go_num, by rw [Hs.out]; rfl, Hb, rfl⟩
      case rest =>
      obtain ⟨a1, ha1, ha2, rfl, rfl, Hb, rfl⟩ := hcut
      have hsg : sgT ((L s).drop a) = 1 ∨ sgT ((L s).drop a) = -1 := by unfold sgT; split <;> simp
      have Hbad := Lib.hid (show badS ((L s).drop a1) = true → psL (L s) [] = none by
        intro h; rw [Hps.out]; exact psL_bad Hrne.out (by rw [← Hb.out]; exact h) p)
      have Hgood := Lib.hid (show badS ((L s).drop a1) = false → psL (L s) [] = psL ((L s).drop (a1 + (kS ((L s).drop a1)).2)) ((ext p (kS ((L s).drop a1)).1.toNat).set (kS ((L s).drop a1)).1.toNat (gx (ext p (kS ((L s).drop a1)).1.toNat) (kS ((L s).drop a1)).1.toNat + sgT ((L s).drop a) * cS ((L s).drop a1))) by
        intro h
        have e := psL_good (s := (L s).drop a) Hrne.out (by rw [← Hb.out]; exact h) p
        rw [← Hb.out] at e
        rw [Hps.out, e, drop_add])
      clear Hps Hb Hrne Hrs
      generalize sgT ((L s).drop a) = sg at *
      have hdk := dk_le ((L s).drop a1)
      rw [List.length_drop, Hlen.out] at hdk
      have hkl := kS_le ((L s).drop a1)
      rw [List.length_drop, Hlen.out] at hkl
      have hkb := kS_bd ((L s).drop a1)
      have hcb := cS_bd ((L s).drop a1)
      have hnb := nS_bd ((L s).drop a1)
      have HD := Lib.hid (show ∀ b, (L s).drop (a1 + b) = ((L s).drop a1).drop b from fun b => (drop_add s a1 b).symm)
      have Hnum := Lib.hid (l02Number_any s a1 wr ha2 (by omega))
      have Hl := Lib.hid (show ((L s).drop a1).length = s.size - a1 by rw [List.length_drop, Hlen.out])
      obtain ⟨l, Hl0⟩ : ∃ l, Hid (l = (L s).drop a1) := ⟨_, Lib.hid rfl⟩
      rw [← Hl0.out] at Hbad Hgood hdk hkl hkb hcb HD Hnum Hl hnb
      obtain ⟨d, Hd⟩ : ∃ d, Hid (d = dk l) := ⟨_, Lib.hid rfl⟩
      rw [← Hd.out] at hdk Hnum
      go_wp2_with fail
      refine Hnum.out.mono ?_
      rintro e w2 ⟨rfl, rfl⟩
      clear Hnum
      go_upto_if 41 with fail
      go_cut [7] from 13 to 103 (fun u wx => u = .int .i64 (cS l) ∧ wr = wx)
      case first =>
        by_cases h0 : d = 0
        · have t1 : (((a1 + d : Nat) : Int) == (a1 : Int)) = true := beqT (by omega)
          have Hq := Lib.hid (show cS l = 1 by unfold cS; rw [if_pos (by rw [← Hd.out]; exact h0)])
          clear h0
          go_wp2_with fail
          go_meet
          exact ⟨by rw [Hq.out], rfl⟩
        · have t1 : (((a1 + d : Nat) : Int) == (a1 : Int)) = false := beqF (by omega)
          have Hq := Lib.hid (show cS l = nS l by unfold cS; rw [if_neg (by rw [← Hd.out]; exact h0)])
          clear h0
          go_wp2_with fail
          go_meet
          exact ⟨by rw [Hq.out], rfl⟩
      case rest =>
      obtain ⟨rfl, rfl⟩ := hcut
      clear hnb
      obtain ⟨P, HP⟩ : ∃ P : Bool, Hid (P = ((l.drop d).head? == some 116)) := ⟨_, Lib.hid rfl⟩
      go_upto_region 12 with fail
      go_cut [51] from 13 to 103 (fun t wx => t = .bool P ∧ wr = wx)
      case first =>
        by_cases h0 : a1 + d < s.size
        · have e1 : (((((s)[a1 + d]).toNat : Int)) == 116) = P := by rw [HP.out, ← HD.out d]; exact head_at s (a1 + d) h0 116
          go_wp2_with fail
          go_meet
          exact ⟨rfl, rfl⟩
        · have hP := Lib.hid (show P = false by rw [HP.out, ← HD.out d]; exact drop_emp s _ h0 116)
          have t1 : decide (((a1 + d : Nat) : Int) < (s.size : Int)) = false := decide_eq_false (by omega)
          go_wp2_with fail
          go_meet
          exact ⟨by rw [hP.out], rfl⟩
      case rest =>
      obtain ⟨rfl, rfl⟩ := hcut
      go_upto_if 51 with fail
      go_cut [8, 9] from 13 to 103 (fun u v wx => u = .int .i64 ((a1 + (kS l).2 : Nat) : Int) ∧ v = .int .i64 (kS l).1 ∧ wr = wx)
      case first =>
        cases P
        · have Hq := Lib.hid (show kS l = (0, d) by
            unfold kS; rw [← Hd.out, if_neg (fun e => by have := HP.out; rw [e] at this; simp at this)])
          go_wp2_with fail
          go_meet
          exact ⟨by rw [Hq.out]; go_num, by rw [Hq.out], rfl⟩
        · have hP := Lib.hid (show (l.drop d).head? = some 116 from eq_of_beq HP.out.symm)
          have hlt2 : d < s.size - a1 := by have := head_lt hP.out; rw [Hl.out] at this; exact this
          obtain ⟨Q, HQ⟩ : ∃ Q : Bool, Hid (Q = ((l.drop (d + 1)).head? == some 94)) := ⟨_, Lib.hid rfl⟩
          clear HP
          go_upto_region 15 with fail
          go_cut [63] from 13 to 103 (fun t wx => t = .bool Q ∧ wr = wx)
          case first =>
            by_cases h0 : a1 + d + 1 < s.size
            · have e1 : (((((s)[a1 + d + 1]).toNat : Int)) == 94) = Q := by rw [HQ.out, ← HD.out (d + 1)]; exact head_at s (a1 + d + 1) h0 94
              go_wp2_with fail
              go_meet
              exact ⟨rfl, rfl⟩
            · have hP := Lib.hid (show Q = false by rw [HQ.out, ← HD.out (d + 1)]; exact drop_emp s _ h0 94)
              have t1 : decide (((a1 + d + 1 : Nat) : Int) < (s.size : Int)) = false := decide_eq_false (by omega)
              go_wp2_with fail
              go_meet
              exact ⟨by rw [hP.out], rfl⟩
          case rest =>
          obtain ⟨rfl, rfl⟩ := hcut
          cases Q
          · have Hq := Lib.hid (show kS l = (1, d + 1) by
              unfold kS; rw [← Hd.out, if_pos hP.out, if_neg (fun e => by have := HQ.out; rw [e] at this; simp at this)])
            go_wp2_with fail
            go_meet
            exact ⟨by rw [Hq.out]; go_num, by rw [Hq.out], rfl⟩
          · have hQ := Lib.hid (show (l.drop (d + 1)).head? = some 94 from eq_of_beq HQ.out.symm)
            have hlt3 : d + 1 < s.size - a1 := by have := head_lt hQ.out; rw [Hl.out] at this; exact this
            have Hq := Lib.hid (show kS l = (nS (l.drop (d + 2)), d + 2 + dk (l.drop (d + 2))) by
              unfold kS; rw [← Hd.out, if_pos hP.out, if_pos hQ.out])
            have Hnum := Lib.hid (l02Number_any s (a1 + d + 2) wr (by omega) (by omega))
            have Hd2 := Lib.hid (HD.out (d + 2))
            rw [show a1 + d + 2 = a1 + (d + 2) by omega, Hd2.out] at Hnum
            clear HQ hP hQ
            have hn2 := nS_bd (l.drop (d + 2))
            generalize nS (l.drop (d + 2)) = kk at *
            have hd2 : dk (l.drop (d + 2)) ≤ s.size := by have := dk_le (l.drop (d + 2)); rw [List.length_drop, Hl.out] at this; omega
            generalize dk (l.drop (d + 2)) = dd at *
            have e3 : ((a1 + (d + 2) : Nat) : Int) = (a1 : Int) + (d : Int) + 1 + 1 := by omega
            rw [e3] at Hnum
            clear e3
            go_wp2_with fail
            refine Hnum.out.mono ?_
            rintro e w2 ⟨rfl, rfl⟩
            clear Hnum
            go_wp2_with fail
            go_meet
            exact ⟨by rw [Hq.out]; go_num, by rw [Hq.out], rfl⟩
      case rest =>
      obtain ⟨rfl, rfl, rfl⟩ := hcut
      clear HP Hl HD Hd hdk
      have Hbe := Lib.hid (show badS l = ((kS l).2 == 0 || (decide (cS l < 0) || !inR (kS l).1 0 2000)) from rfl)
      clear Hl0
      generalize badS l = bad at *
      generalize cS l = c at *
      generalize (kS l).1 = k at *
      generalize (kS l).2 = m at *
      clear hlt
      have hnx0 : a1 + m ≤ s.size := by omega
      obtain ⟨nx, hnx⟩ : ∃ nx, nx = a1 + m := ⟨_, rfl⟩
      rw [← hnx] at Hgood hnx0 ⊢
      have Hnx := Lib.hid hnx
      clear hnx
      go_upto_region 19 with fail
      go_cut [84] from 13 to 103 (fun t wx => t = .bool bad ∧ wr = wx)
      case first =>
        by_cases h0 : m = 0
        · have t1 : ((nx : Int) == (a1 : Int)) = true := beqT (by have := Hnx.out; omega)
          have hP := Lib.hid (show bad = true by rw [Hbe.out, h0]; rfl)
          clear h0
          go_wp2_with fail
          go_meet
          exact ⟨by rw [hP.out], rfl⟩
        · have t1 : ((nx : Int) == (a1 : Int)) = false := beqF (by have := Hnx.out; omega)
          by_cases hc : c < 0
          · have t2 : decide (c < 0) = true := decide_eq_true hc
            have hP := Lib.hid (show bad = true by rw [Hbe.out, t2]; simp)
            clear h0 hc
            go_wp2_with fail
            go_meet
            exact ⟨by rw [hP.out], rfl⟩
          · have t2 : decide (c < 0) = false := decide_eq_false hc
            have hP := Lib.hid (show bad = !inR k 0 2000 by rw [Hbe.out, t2]; simp [h0])
            clear h0 hc
            go_wp2_with fail
            refine (l01In_any _ _ _ _).mono ?_
            rintro e w' ⟨rfl, rfl⟩
            rw [← Bool.not_not (inR k 0 2000), ← hP.out]
            clear hP Hbe Hbad Hgood
            go_wp2_with fail
            go_meet
            exact ⟨rfl, rfl⟩
      case rest =>
      obtain ⟨rfl, rfl⟩ := hcut
      cases bad
      rotate_left
      · have Hr := Lib.hid (Hrn.out (Hbad.out rfl))
        clear Hbad Hgood Hbe Hrn
        go_wp2_with fail
        go_ret2
        exact Li2.nil Hr.out hbe
      · have hk2 : 0 ≤ k ∧ k ≤ 2000 := by
          have := Hbe.out
          simp at this
          exact inR_true.1 this.2.2
        have hc0 : 0 ≤ c := by
          have := Hbe.out
          simp at this
          omega
        have hm0 : 0 < m := by
          have := Hbe.out
          simp at this
          omega
        have Hg := Lib.hid (Hgood.out rfl)
        clear Hbad Hgood Hbe Hrn
        obtain ⟨K, rfl⟩ := Int.eq_ofNat_of_zero_le hk2.1
        rw [Int.toNat_natCast] at Hg
        have hKl : K ≤ 2000 := by omega
        obtain ⟨A4, c4, rfl, hnc4, hcm4⟩ := own_shape Hown.out
        have hbs := hbe.size
        have hsc : -1000000000 < sg * c ∧ sg * c < 1000000000 := by rcases hsg with rfl | rfl <;> omega
        go_wp2_with fail
        go_loopw [4] (fun v wx => ∃ (A : Option Addr) (c' : Nat) (p' : List Int), v = .slice A p'.length c' ∧ p'.length ≤ 2001 ∧ Hid (ext p' K = ext p K) ∧ Hid (wx.ownsRow w.heap.size 2 1 (.slice A p'.length c') p'.length (p'.map (Value.int .i64))) ∧ Below w.heap.size w wx) (fun v _ => 2002 - lenV v)
        case atStart => exact ⟨A4, c4, p, rfl, hpl, Lib.hid rfl, Hown, hbe⟩
        case round =>
          obtain ⟨A5, c5, q, rfl, hql, Hext, Hown5, hbe5⟩ := hrel
          by_cases hK : q.length ≤ K
          · have t1 : decide ((q.length : Int) ≤ (K : Int)) = true := decide_eq_true (by omega)
            have Hext2 := Lib.hid (show ext (q ++ [0]) K = ext p K by rw [ext_app hK, Hext.out])
            have hsz5 := hbe5.size
            go_wp2_with (at_builtin; refine wp_append_int rfl _ _ rfl w.heap.size _ q rfl (Hown5.out.alloc _) _ (0 : Int) 1 rfl (by simp) (by omega) (by simp; omega) ?_)
            intro v' w6 hown6 hgrow
            have hbe6 := below_append hbe5 hbe5.size Hown5.out (Nat.le_refl _) hgrow
            obtain ⟨q6, hq6⟩ : ∃ q6, q6 = q ++ [(0 : Int)] := ⟨_, rfl⟩
            rw [← hq6] at Hext2
            have hown6 : w6.ownsRow w.heap.size 2 1 v' q6.length (q6.map (Value.int .i64)) := by rw [hq6, List.length_append, List.map_append]; exact hown6
            have Hl6 := Lib.hid (show q6.length = q.length + 1 by rw [hq6]; simp)
            clear hq6
            obtain ⟨A6, c6, rfl, hnc6, hcm6⟩ := own_shape hown6
            have Hown6 := Lib.hid hown6
            clear hown6 hgrow Hown5 hbe5
            go_wp2_with fail
            exact ⟨⟨A6, c6, q6, rfl, by rw [Hl6.out]; omega, Hext2, Hown6, hbe6⟩, by rw [lenV_mk, lenV_mk, Hl6.out]; omega⟩
          · have t1 : decide ((q.length : Int) ≤ (K : Int)) = false := decide_eq_false (by omega)
            rw [ext_end hK] at Hext
            have Hq := Lib.hid (show ∀ i, gx q i = gx p i from fun i => by rw [Hext.out, gx_ext2])
            have Hb2 := Lib.hid Hbd.out
            rw [← Hext.out] at Hg
            obtain ⟨g, cc, e4⟩ := Go.Joins.ownsRow_form Hown5.out (by omega)
            obtain ⟨rfl, _, rfl⟩ : A5 = some ⟨g, 0, none⟩ ∧ True ∧ c5 = cc := by simpa using e4
            clear e4
            have hown5 := Hown5.out
            have hcK : wr.cell? ⟨g, K, none⟩ = some (.int .i64 (gx q K)) := by rw [hown5.cellAt K (by omega)]; exact map_gx q K (by omega)
            have hfr := hown5.frozenAt K
            have hst := hown5.stored K (.int .i64 (gx q K + sg * c))
            have hgl := (hown5.lt g rfl).1
            have Hst := Lib.hid (show (wr.setCell ⟨g, K, none⟩ (.int .i64 (gx q K + sg * c))).ownsRow w.heap.size 2 1 (.slice (some ⟨g, 0, none⟩) q.length c5) (q.set K (gx q K + sg * c)).length ((q.set K (gx q K + sg * c)).map (Value.int .i64)) by
              have e := hst.1
              rw [← List.map_set] at e; rw [List.length_set]; exact e)
            have hbe7 : Below w.heap.size w (wr.setCell ⟨g, K, none⟩ (.int .i64 (gx q K + sg * c))) := hbe5.setCell hgl _
            have hgb := Hb2.out K
            rw [← Hq.out K] at hgb
            have Hb7 := Lib.hid (show ∀ i, -((nx : Int) * 1000000000) ≤ gx (q.set K (gx q K + sg * c)) i ∧ gx (q.set K (gx q K + sg * c)) i ≤ (nx : Int) * 1000000000 from fun i => by
              have h1 := Hb2.out i
              rw [← Hq.out i] at h1
              have h2 := Hnx.out
              rw [gx_set q K _ i (by omega)]
              split
              · omega
              · omega)
            have hi1 : 0 ≤ (K : Int) ∧ (K : Int) < (q.length : Int) := by omega
            have hwr : -9223372036854775808 ≤ gx q K + sg * c ∧ gx q K + sg * c ≤ 9223372036854775807 := by omega
            have hwr2 : -9223372036854775808 ≤ sg * c ∧ sg * c ≤ 9223372036854775807 := by omega
            have Hl7 := Lib.hid (show (q.set K (gx q K + sg * c)).length ≤ 2001 by rw [List.length_set]; exact hql)
            have hlt7 : a < nx := by have := Hnx.out; omega
            clear hst hown5 Hown5 hbe5 Hb2 Hbd Hq Hext hgb hK
            generalize gx q K = z at *
            go_wp2_with fail
            exact ⟨⟨nx, _, rfl, hnx0, Hl7.out, Hg, Hb7, Hst, hbe7⟩, by simp [intOf]; omega⟩
    · obtain rfl : a = s.size := by omega
      have hps : psL (L s) [] = some p := by rw [Hps.out, List.drop_of_length_le (by rw [Hlen.out]; omega)]; rfl
      have Hr := Lib.hid (Hrs.out p hps)
      have hop : Ow wr w.heap.size wr.heap.size u4 p := Ow.of_own Hown.out
      clear hps Hps Hrs Hrn Hbd Hown hlt
      obtain ⟨A4, c4, rfl, hnc4, hcm4⟩ := hop.shape
      have hsz1 := hbe.size
      have hql : (trimL p).length ≤ 2001 := by have := trimL_len p; omega
      go_wp2_with fail
      refine (l02Trim_any _ _ _ _ hop.is (Nat.le_refl _) (by omega)).mono ?_
      rintro e w2 ⟨v2, rfl, how2, hb2⟩
      have hbe2 := hbe.trans (hb2.mono hsz1)
      have hsz2 := hbe2.size
      have hszb := hb2.size
      generalize trimL p = q at *
      obtain ⟨A5, c5, rfl, hnc5, hcm5⟩ := how2.shape
      clear hb2 hbe hop
      cases hp : isPoly q
      · have Hr2 := Lib.hid (show ppS (L s) = ([], 6) by rw [Hr.out, hp]; rfl)
        clear Hr
        go_wp2_with fail
        refine (l02Is_any _ _ q _ how2.is (Nat.le_refl _)).mono ?_
        rintro e w3 ⟨rfl, rfl⟩
        rw [hp]
        go_wp2_with fail
        go_ret2
        exact Li2.nil Hr2.out hbe2
      · have htx := Lib.hid (l02Text_is _ _ q _ how2.is (Nat.le_refl _) hp)
        obtain ⟨T, HT⟩ : ∃ T : Bool, Hid (T = (ptx q == L s)) := ⟨_, Lib.hid rfl⟩
        have t3 : ((S (ptx q)).toList == s.toList) = T := by rw [toList_L, toList_L, L_S, HT.out]
        have Hr2 := Lib.hid (show ppS (L s) = if T = true then (q, 0) else ([], 6) by rw [Hr.out, hp, Bool.true_and, HT.out])
        clear Hr HT
        generalize S (ptx q) = y at *
        cases T
        · go_wp2_with fail
          refine (l02Is_any _ _ q _ how2.is (Nat.le_refl _)).mono ?_
          rintro e w3 ⟨rfl, rfl⟩
          rw [hp]
          go_wp2_with fail
          refine htx.out.mono ?_
          rintro e w4 ⟨rfl, hb4⟩
          have hbe4 := hbe2.trans (hb4.mono hsz2)
          go_wp2_with fail
          go_ret2
          exact Li2.nil (by rw [Hr2.out]; rfl) hbe4
        · go_wp2_with fail
          refine (l02Is_any _ _ q _ how2.is (Nat.le_refl _)).mono ?_
          rintro e w3 ⟨rfl, rfl⟩
          rw [hp]
          go_wp2_with fail
          refine htx.out.mono ?_
          rintro e w4 ⟨rfl, hb4⟩
          have hbe4 := hbe2.trans (hb4.mono hsz2)
          have how4 := (how2.later hb4).wide (lo' := w.heap.size) (hi' := w4.heap.size) hsz1 hb4.size
          go_wp2_with fail
          go_ret2
          exact ⟨.slice A5 q.length c5, by rw [Hr2.out]; rfl, by rw [Hr2.out]; exact how4, hbe4⟩
end WZ
end Go.Proofs.YtdfhkkngbpidaaaDoor
