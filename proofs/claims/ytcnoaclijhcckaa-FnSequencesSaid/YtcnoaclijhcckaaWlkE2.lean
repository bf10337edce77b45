/-
  WALKS, CHAPTER 4: the branch of a sequence, by the program.
-/
import Derived.Test.YtcnoaclijhcckaaWlkE1
import Derived.Deep.CutRange
namespace Go.Proofs.Ytcnoaclijhcckaa
open Go.RowKit
set_option linter.unusedVariables false
namespace WE
open K Pl WA WC WD WL
/-- What is found: a list, and whether it is the branch of the sequence. -/
def BsR (xs : List Int) (w : World) (e : Ending) (w' : World) : Prop := ∃ v T b, e = .returned (.tuple #[.agg #[v], .bool b]) ∧ Ow w' w.heap.size w'.heap.size v T ∧ Below w.heap.size w w' ∧ b = (bsq xs).isSome ∧ (b = true → bsq xs = some T)
theorem BsR.no {xs : List Int} {w w' : World} (h : bsq xs = none) (hb : Below w.heap.size w w') : BsR xs w (.returned (.tuple #[.agg #[.slice none 0 0], .bool false])) w' :=
  ⟨_, [], false, rfl, Ow.nil _ _ _, hb, by rw [h]; rfl, fun e => by cases e⟩
/-- The list from a place on. -/
theorem is_drop {w : World} {B n c a : Nat} {ad : Addr} {xs : List Int} (h : Rd w B (some ad) n xs) (ha : a ≤ n) (hc : n ≤ c) (hm : c ≤ maxLen) : Is w B (.slice (some (ad.add a)) (n - a) (c - a)) (xs.drop a) := by
  have hl := h.len
  refine ⟨_, _, _, rfl, by omega, by omega, ⟨by simp; omega, fun hp => ?_⟩⟩
  obtain ⟨ad', e, hab, hcs⟩ := h.pos (by omega)
  cases e
  refine ⟨_, rfl, by rw [block_of_add]; exact hab, fun j hj => ?_⟩
  rw [add_of_add, hcs (a + j) (by omega), gx_drop]
set_option maxRecDepth 8192 in
set_option maxHeartbeats 6400000 in
theorem branchOfSequence_any (B : Nat) (v : Value) (xs : List Int) (w : World) (h : Is w B v xs) (hB : B ≤ w.heap.size) (hP : ptsB xs = true) : Calls Try.prog 46 #[v] w (BsR xs w) := by
  have hp := ptsB_true.1 hP
  obtain ⟨A, n, c, rfl, hnc, hcm, hrd0⟩ := h
  have Hrd := Lib.hid hrd0
  have Hlen := Lib.hid hrd0.len
  have Hcm := Lib.hid hcm
  rw [Hlen.out] at hp
  have hn1 := hp.1
  have hn4 := hp.2.1
  have Hg := Lib.hid hp.2.2
  obtain ⟨ad, rfl, hab, hc⟩ := hrd0.pos hn1
  have Hc := Lib.hid hc
  obtain ⟨e0, HE0⟩ : ∃ e0 : Nat, Hid (gx xs 0 = (e0 : Int)) := ⟨(gx xs 0).toNat, Lib.hid (by have := Hg.out 0 (by omega); omega)⟩
  have he0 : 1 ≤ e0 ∧ e0 ≤ 64 := by have := Hg.out 0 (by omega); have := HE0.out; omega
  have hcr0 : (w.alloc (.cells #[.slice none 0 0] 26)).cell? ⟨w.heap.size, 0, none⟩ = some (.slice none 0 0) := by simp [go_sem]
  have hfr0 : (w.alloc (.cells #[.slice none 0 0] 26)).frozen? ⟨w.heap.size, 0, none⟩ = false := by simp [go_sem]
  have hw0 : Below w.heap.size w (w.alloc (.cells #[.slice none 0 0] 26)) := (Below.refl _ _).alloc (Nat.le_refl _) _
  unfold maxLen at hcm
  clear hrd0 hc hP hp
  go_enter Try.func46, Try.ntmps46
  go_upto_region 0 with fail
  go_cut [2] from 13 to 102 (fun p wx => p = .pointer (some ⟨w.heap.size, 0, none⟩) ∧ wx.cell? ⟨w.heap.size, 0, none⟩ = some (.slice none 0 0) ∧ wx.frozen? ⟨w.heap.size, 0, none⟩ = false ∧ Below w.heap.size w wx ∧ w.heap.size < wx.heap.size)
  case first =>
    go_wp2
    go_meet
    exact ⟨rfl, hcr0, hfr0, hw0, by simp⟩
  case rest =>
    obtain ⟨rfl, hcr, hfr, hwr, hsw⟩ := hcut
    clear hcr0 hfr0 hw0
    obtain ⟨w1, hw1c⟩ : ∃ w1, w1 = wc := ⟨_, rfl⟩
    subst hw1c
    have hc0 : w1.cell? ad = some (.int .i64 (e0 : Int)) := by
      rw [← HE0.out]
      have := (hwr.cell (p := ad.add 0) (by rw [block_of_add]; omega)).trans (Hc.out 0 (by omega)); simpa [Addr.add] using this
    have hbl : ad.block < w1.heap.size := by omega
    have hi0 : (0 : Int) < (n : Int) := by omega
    have hv0 := Lib.hid (show Bv ((w1.alloc (.cells #[.int .i64 (e0 : Int)] 2)).alloc (.cells #[.slice (some ⟨w1.heap.size, 0, none⟩) 1 1] 26)) (w1.heap.size + 1) w1.heap.size (some ⟨w1.heap.size, 0, none⟩) 1 1 [(e0 : Int)] from Bv.lit w1 (e0 : Int) (Nat.le_refl _))
    have hbe0 : Below w1.heap.size w1 ((w1.alloc (.cells #[.int .i64 (e0 : Int)] 2)).alloc (.cells #[.slice (some ⟨w1.heap.size, 0, none⟩) 1 1] 26)) := ((Below.refl _ _).alloc (Nat.le_refl _) _).alloc (by simp) _
    go_upto_if 22 with fail
    go_cut [7] from 13 to 102 (fun a wx => ∃ at0 : Nat, a = .int .i64 (at0 : Int) ∧ at0 ≤ n ∧ Hid (pI (e0 : Int) 0 [(e0 : Int)] (xs.drop at0) = pI (gx xs 0) 0 [gx xs 0] xs) ∧ Hid (Bv wx (w1.heap.size + 1) w1.heap.size (some ⟨w1.heap.size, 0, none⟩) 1 1 [(e0 : Int)]) ∧ Below w1.heap.size w1 wx)
    case first =>
      by_cases h1 : e0 = 1
      · have hb1 : ((e0 : Int) == 1) = true := by simp; omega
        have HQ := Lib.hid (show pI (e0 : Int) 0 [(e0 : Int)] (xs.drop 1) = pI (gx xs 0) 0 [gx xs 0] xs by
          rw [HE0.out, pI_one (by omega), pI_one (by omega)]
          obtain ⟨y, ys, rfl⟩ : ∃ y ys, xs = y :: ys := by
            cases xs with
            | nil => have := Hlen.out; simp at this; omega
            | cons y ys => exact ⟨y, ys, rfl⟩
          have hy : y = 1 := by have := HE0.out; simp [gx] at this; omega
          simp [hy])
        clear h1
        go_wp2
        go_meet
        exact ⟨1, rfl, by omega, HQ, hv0, hbe0⟩
      · have hb1 : ((e0 : Int) == 1) = false := by rw [beq_eq_false_iff_ne]; omega
        have HQ := Lib.hid (show pI (e0 : Int) 0 [(e0 : Int)] (xs.drop 0) = pI (gx xs 0) 0 [gx xs 0] xs by rw [HE0.out]; rfl)
        clear h1
        go_wp2
        go_meet
        exact ⟨0, rfl, by omega, HQ, hv0, hbe0⟩
    case rest =>
      obtain ⟨at0, rfl, hat0, HQ0, hv1, hbe1⟩ := hcut
      clear hv0 hbe0 hc0
      go_wp2_with fail
      go_loopw [5, 6, 7] (fun u l a wr => ∃ (en t m : Nat) (last : Int) (T : List Int) (A6 : Option Addr) (c6 : Nat), u = .int .i64 (en : Int) ∧ l = .int .i64 last ∧ a = .int .i64 (t : Int) ∧ 1 ≤ en ∧ en ≤ 64 ∧ t ≤ n ∧ 1 ≤ m ∧ m + en ≤ 65 ∧ 0 ≤ last ∧ last ≤ 30000 * (m : Int) ∧ Hid (pI (en : Int) last T (xs.drop t) = pI (gx xs 0) 0 [gx xs 0] xs) ∧ Hid (Bv wr (w1.heap.size + 1) w1.heap.size A6 m c6 T) ∧ Below w1.heap.size w1 wr) (fun u _ _ _ => (intOf u).toNat)
      case atStart => exact ⟨e0, at0, 1, 0, _, _, _, rfl, rfl, rfl, he0.1, he0.2, hat0, by omega, by omega, by omega, by omega, HQ0, hv1, hbe1⟩
      case round =>
        clear hv1 hbe1 HQ0
        obtain ⟨en, t, m, last, T, A6, c6, rfl, rfl, rfl, hen1, hen64, htn, hm1, hme, hl0, hl1, HQ, hv, hbe⟩ := hrel
        have hs := hbe.size
        have hbd := hv.out.bounds
        have hbv := hv.out.lt
        have hcr2 : wr.cell? ⟨w.heap.size, 0, none⟩ = some (.slice none 0 0) := (hbe.cell (p := ⟨w.heap.size, 0, none⟩) (by show w.heap.size < _; omega)).trans hcr
        have hfr2 : wr.frozen? ⟨w.heap.size, 0, none⟩ = false := (hbe.frozen (p := ⟨w.heap.size, 0, none⟩) (by show w.heap.size < _; omega)).trans hfr
        have hbw := hwr.trans (hbe.mono hwr.size)
        have Hcw := Lib.hid (show ∀ j, j < n → wr.cell? (ad.add j) = some (.int .i64 (gx xs j)) from fun j hj => (hbw.cell (by rw [block_of_add]; omega)).trans (Hc.out j hj))
        have Hrw := Lib.hid (Hrd.out.below (hbw.mono hB))
        have Hld := Lib.hid (show (xs.drop t).length = n - t by rw [List.length_drop, Hlen.out])
        by_cases hen : 1 < en
        · have hen' : (1 : Int) < (en : Int) := by omega
          go_wp2_with fail
          go_loop [8, 9] (fun k i => ∃ j : Nat, i = .int .i64 ((t + j : Nat) : Int) ∧ k = .int .i64 ((j * en : Nat) : Int) ∧ t + j ≤ n ∧ j * en ≤ 25600 ∧ Hid (∀ q, q < j → gx (xs.drop t) q = (en : Int))) (fun _ i => n - (intOf i).toNat)
          case atStart => exact ⟨0, rfl, by simp, by omega, by omega, Lib.hid (fun q h => by omega)⟩
          case round =>
            obtain ⟨j, rfl, rfl, hjn, hje, Hj⟩ := hrel
            by_cases hlt : t + j < n
            · have hcj := Hcw.out (t + j) hlt
              have hij : 0 ≤ ((t + j : Nat) : Int) ∧ ((t + j : Nat) : Int) < (n : Int) := by omega
              have hgj := Hg.out (t + j) hlt
              have Hgd := Lib.hid (gx_drop xs t j)
              by_cases heq : gx xs (t + j) = (en : Int)
              · have hbq : (gx xs (t + j) == (en : Int)) = true := by simp [heq]
                have Hj2 := Lib.hid (show ∀ q, q < j + 1 → gx (xs.drop t) q = (en : Int) from fun q hq => by
                  rcases Nat.lt_or_ge q j with h3 | h3
                  · exact Hj.out q h3
                  · obtain rfl : q = j := by omega
                    rw [Hgd.out]; exact heq)
                have hsum : ((j * en : Nat) : Int) + (en : Int) = (((j + 1) * en : Nat) : Int) := by rw [Nat.add_mul]; omega
                have hj1 : (j + 1) * en ≤ 25600 := Nat.le_trans (Nat.mul_le_mul (show j + 1 ≤ 400 by omega) hen64) (by decide)
                clear heq
                go_wp2
                go_round
                case rel => exact ⟨j + 1, by go_num, by first | (rw [hsum]; done) | (simp only [hsum]; done) | go_num, by omega, hj1, Hj2⟩
                case measure => first | (simp [intOf]; done) | (simp [intOf]; omega)
              · have hbq : (gx xs (t + j) == (en : Int)) = false := by rw [beq_eq_false_iff_ne]; exact heq
                have Hpre := Lib.hid (pre_unique (en : Int) (xs.drop t) j (by rw [Hld.out]; omega) Hj.out (.inr (by rw [Hgd.out]; exact heq)))
                by_cases hup : (en : Int) < gx xs (t + j)
                · have Hno := Lib.hid (bsq_no (by rw [← HQ.out]; exact pI_up hen' (by rw [← Hpre.out, Hgd.out]; exact hup)))
                  obtain ⟨n1, n2⟩ := res_none (b := w.heap.size) hcr2 (by omega) hbw
                  have N2 := Lib.hid n2
                  clear n2 hbw hbe heq
                  go_wp2
                  exact bodyPost_ret (v := .tuple #[.agg #[.slice none 0 0], .bool false]) (by simp [results, Try.results46, go_sem, n1]) rfl (BsR.no Hno.out N2.out)
                · obtain ⟨kn, Hkn⟩ : ∃ kn : Nat, Hid (((j * en : Nat) : Int) + gx xs (t + j) = (kn : Int)) := ⟨(((j * en : Nat) : Int) + gx xs (t + j)).toNat, Lib.hid (by omega)⟩
                  have hkn : 1 ≤ kn ∧ kn ≤ 25664 := by have := Hkn.out; omega
                  have Hk := Lib.hid (show kOf (en : Int) (xs.drop t) = (kn : Int) by unfold kOf; rw [← Hpre.out, Hgd.out, ← Hkn.out]; push_cast; rfl)
                  have Hrun := Lib.hid (show runL (en : Int) (xs.drop t) = reps (steps kn en) by unfold runL; rw [Hk.out]; simp)
                  have hxy : kn * en ≤ 100000000 := Nat.le_trans (Nat.mul_le_mul hkn.2 hen64) (by decide)
                  have Hlt2 := Lib.hid (show pre (en : Int) (xs.drop t) ≠ (xs.drop t).length by rw [← Hpre.out, Hld.out]; omega)
                  have Hup2 := Lib.hid (show ¬ (en : Int) < gx (xs.drop t) (pre (en : Int) (xs.drop t)) by rw [← Hpre.out, Hgd.out]; exact hup)
                  have Hge2 := Lib.hid (show 1 ≤ gx (xs.drop t) (pre (en : Int) (xs.drop t)) by rw [← Hpre.out, Hgd.out]; exact hgj.1)
                  have Hgl := Lib.hid (show gcdI (en : Int) (kn : Int) < (en : Int) ∧ 1 ≤ gcdI (en : Int) (kn : Int) by
                    have hne : gx xs (t + j) ≠ (en : Int) := heq
                    have := gcd_lt hen' hgj.1 (by omega) (j : Int)
                    have e2 : (j : Int) * (en : Int) + gx xs (t + j) = (kn : Int) := by rw [← Hkn.out]; push_cast; rfl
                    rw [e2] at this
                    exact ⟨this.1, by rw [this.2.1]; exact this.2.2⟩)
                  have htc : t < c := by omega
                  have htc' : (t : Int) < (c : Int) := by omega
                  have htc2 : (t : Int) ≤ (n : Int) := by omega
                  clear heq
                  go_wp2_with fail
                  rw [show ((j : Int) * (en : Int) + gx xs (t + j)) = (kn : Int) by rw [← Hkn.out]; push_cast; rfl]
                  refine (runOf_any wr.heap.size none 0 0 [] kn en _ (by simpa using World.ownsRow_nil wr wr.heap.size 2 1) (Nat.le_refl _) (by omega) (by omega) (by omega) hxy).mono ?_
                  rintro e w2 ⟨A', n', c', rfl, hn', hown', hb2⟩
                  rw [List.nil_append] at hn' hown'
                  have hbe2 := hbe.trans (hb2.mono hs)
                  have hs2 := hb2.size
                  have hv2 := Lib.hid (hv.out.later hb2)
                  have hcr3 := (hb2.cell (p := ⟨w.heap.size, 0, none⟩) (by show w.heap.size < _; omega)).trans hcr2
                  have hfr3 := (hb2.frozen (p := ⟨w.heap.size, 0, none⟩) (by show w.heap.size < _; omega)).trans hfr2
                  have hbw2 := hbw.trans (hb2.mono hbw.size)
                  have Hi' := Lib.hid (show Is w2 w2.heap.size (.slice A' n' c') (reps (steps kn en)) from is_of_own hown')
                  have Hdr := Lib.hid (is_drop (a := t) (Hrw.out.below (hb2.mono (by omega))) htn hnc Hcm.out)
                  obtain ⟨hnc2, hcm2⟩ : n' ≤ c' ∧ c' ≤ 9223372036854775807 := by
                    obtain ⟨A9, c9, e, h1, h2⟩ := own_shape hown'
                    cases e; exact ⟨h1, h2⟩
                  clear hown' hb2 hbe hbw hcr2 hfr2 hv
                  go_wp2_with fail
                  cases hPf : decide (reps (steps kn en) <+: xs.drop t)
                  · have Hno := Lib.hid (bsq_no (by rw [← HQ.out]; exact pI_no hen' (by rw [Hrun.out]; exact of_decide_eq_false hPf)))
                    refine (begins_any B _ _ _ (xs.drop t) (reps (steps kn en)) _ Hdr.out Hi'.out (by omega) (Nat.le_refl _)).mono ?_
                    rintro e w3 ⟨rfl, hb3⟩
                    rw [hPf]
                    have hcr4 := (hb3.cell (p := ⟨w.heap.size, 0, none⟩) (by show w.heap.size < _; omega)).trans hcr3
                    have hfr4 := (hb3.frozen (p := ⟨w.heap.size, 0, none⟩) (by show w.heap.size < _; omega)).trans hfr3
                    obtain ⟨n1, n2⟩ := res_none (b := w.heap.size) hcr4 (by omega) (hbw2.trans (hb3.mono hbw2.size))
                    have N2 := Lib.hid n2
                    clear n2 hbw2 hbe2 hb3
                    go_wp2
                    exact bodyPost_ret (v := .tuple #[.agg #[.slice none 0 0], .bool false]) (by simp [results, Try.results46, go_sem, n1]) rfl (BsR.no Hno.out N2.out)
                  · have Hpf := Lib.hid (of_decide_eq_true hPf)
                    have Hlr := Lib.hid (show t + n' ≤ n by have := Hpf.out.length_le; rw [← hn'.out, Hld.out] at this; omega)
                    have Hgo := Lib.hid (pI_go (last := last) (T := T) hen' Hlt2.out (by have := Hup2.out; omega) Hge2.out (by rw [Hrun.out]; exact Hpf.out))
                    refine (begins_any B _ _ _ (xs.drop t) (reps (steps kn en)) _ Hdr.out Hi'.out (by omega) (Nat.le_refl _)).mono ?_
                    rintro e w3 ⟨rfl, hb3⟩
                    rw [hPf]
                    have hbe3 := hbe2.trans (hb3.mono hbe2.size)
                    have hs3 := hbe3.size
                    have hv3 := Lib.hid (hv2.out.later hb3)
                    have hbv3 := hv3.out.lt
                    have hcx := hv3.out.cell
                    have hfx := hv3.out.free
                    have hlr := Hlr.out
                    have hl2 : 0 ≤ last + (kn : Int) ∧ last + (kn : Int) ≤ 30000 * ((m + 1 : Nat) : Int) := by omega
                    obtain ⟨g2, Hg2⟩ : ∃ g2 : Nat, Hid (gcdI (en : Int) (kn : Int) = (g2 : Int)) := ⟨(gcdI (en : Int) (kn : Int)).toNat, Lib.hid (by have := Hgl.out; omega)⟩
                    have hg2 : g2 < en ∧ 1 ≤ g2 := by have := Hgl.out; have := Hg2.out; omega
                    have HQ2 := Lib.hid (show pI (g2 : Int) (last + (kn : Int)) (T ++ [last + (kn : Int)]) (xs.drop (t + n')) = pI (gx xs 0) 0 [gx xs 0] xs by
                      rw [← HQ.out, Hgo.out, Hk.out, Hg2.out, Hrun.out, ← hn'.out, List.drop_drop])
                    clear hPf hb3 hbe2 hbw2 hcr3 hfr3
                    go_wp2_with (at_builtin; refine wp_append_i rfl _ _ rfl w1.heap.size _ m T rfl (hv3.out.own.alloc _) w3.heap.size (last + (kn : Int)) 1 rfl (by simp) (by omega) (by simp; omega) ?_)
                    intro g' cap' w4 hown4 hgrow hat hlt4
                    obtain ⟨q1, q2⟩ := hv3.out.after hgrow rfl
                    have Hv4 := Lib.hid (hv3.out.step (y := last + (kn : Int)) (g := g') (cap := cap') hgrow rfl (by simpa using hown4) (by rw [World.size_alloc]; exact hat))
                    have hbe4 := hv3.out.below (Nat.le_succ _) (Nat.le_refl _) hbe3 hgrow ⟨rfl, rfl, rfl, rfl⟩ (.slice (some ⟨g', 0, none⟩) (m + 1) cap')
                    clear hv2 hv3 hown4 hgrow hat hbe3 hcx hfx
                    go_wp2_with fail
                    refine (divisor_any (en : Int) (kn : Int) _ (by omega) (by omega) (by omega) (by omega)).mono ?_
                    rintro e w5 ⟨rfl, hb5⟩
                    rw [Hg2.out]
                    have Hv5 := Lib.hid (Hv4.out.later hb5)
                    have hbe5 := hbe4.trans (hb5.mono hbe4.size)
                    clear hb5 hbe4 Hv4 q1 q2
                    go_wp2
                    go_roundw
                    case rel => exact ⟨g2, t + n', m + 1, last + (kn : Int), _, _, _, rfl, rfl, by go_num, by omega, by omega, hlr, by omega, by omega, hl2.1, hl2.2, HQ2, Hv5, hbe5⟩
                    case measure => first | (simp [intOf]; done) | (simp [intOf]; omega)
            · have Hpre := Lib.hid (pre_unique (en : Int) (xs.drop t) j (by rw [Hld.out]; omega) Hj.out (.inl (by rw [Hld.out]; omega)))
              have Hno := Lib.hid (bsq_no (by rw [← HQ.out]; exact pI_end hen' (by rw [← Hpre.out, Hld.out]; omega)))
              have hjn2 : (((t + j : Nat) : Int) == (n : Int)) = true := by rw [beq_iff_eq]; omega
              have hjn3 : ¬ ((t + j : Nat) : Int) < (n : Int) := by omega
              obtain ⟨n1, n2⟩ := res_none (b := w.heap.size) hcr2 (by omega) hbw
              have N2 := Lib.hid n2
              clear n2 hbw hbe
              go_wp2
              exact bodyPost_ret (v := .tuple #[.agg #[.slice none 0 0], .bool false]) (by simp [results, Try.results46, go_sem, n1]) rfl (BsR.no Hno.out N2.out)
        · obtain rfl : en = 1 := by omega
          have hen' : ¬ (1 : Int) < ((1 : Nat) : Int) := by omega
          have Hfin := Lib.hid (pI_one (last := last) (T := T) (ys := xs.drop t) hen')
          rw [HQ.out] at Hfin
          go_upto_region 21 with fail
          go_cut [90, 91, 92] from 88 to 102 (fun s l i wx => ∃ (A9 : Option Addr) (c9 : Nat), s = .slice A9 (n - t) c9 ∧ l = .int .i64 ((n - t : Nat) : Int) ∧ i = .int .i64 0 ∧ wx = wr ∧ Hid (Is wr B (.slice A9 (n - t) c9) (xs.drop t)))
          case first =>
            by_cases htc : t < c
            · have htc' : (t : Int) < (c : Int) := by omega
              have htn' : (t : Int) ≤ (n : Int) := by omega
              have hsub : (n : Int) - (t : Int) = ((n - t : Nat) : Int) := by omega
              have Hdr := Lib.hid (is_drop (a := t) Hrw.out htn hnc Hcm.out)
              go_wp2
              go_meet
              exact ⟨_, _, rfl, by first | rfl | go_num, rfl, rfl, Hdr⟩
            · have Hdr := Lib.hid (show Is wr B (.slice (some ad) (n - t) 0) (xs.drop t) from ⟨_, _, _, rfl, by omega, by simp [maxLen], ⟨by rw [Hld.out], fun h => by omega⟩⟩)
              obtain rfl : t = n := by omega
              obtain rfl : t = c := by omega
              clear htc
              go_wp2
              go_meet
              exact ⟨some ad, 0, by simp, by simp, rfl, rfl, Hdr⟩
          case rest =>
            obtain ⟨A9, c9, rfl, rfl, rfl, hwc, H9⟩ := hcut
            rw [hwc]
            clear hwc
            obtain ⟨N, HN⟩ : ∃ N, Hid (n - t = N) := ⟨_, Lib.hid rfl⟩
            rw [HN.out] at H9 Hld ⊢
            obtain ⟨A8, n8, c8, e8, hnc8, hcm8, hrd8⟩ := H9.out
            cases e8
            unfold maxLen at hcm8
            go_wp2_with fail
            go_loop [92] (fun i => ∃ k : Nat, k ≤ N ∧ i = .int .i64 (k : Int) ∧ Hid (∀ q, q < k → gx (xs.drop t) q = 1)) (fun i => N - (intOf i).toNat)
            case atStart => exact ⟨0, Nat.zero_le _, rfl, Lib.hid (fun q h => by omega)⟩
            case round =>
              obtain ⟨k, hk, rfl, hpre⟩ := hrel
              by_cases hlt : k < N
              · obtain ⟨a9, rfl, hab9, hc9⟩ := hrd8.pos (by omega)
                have hck := hc9 k hlt
                have hik : 0 ≤ (k : Int) ∧ (k : Int) < (N : Int) := by omega
                clear hc9
                by_cases h1 : gx (xs.drop t) k = 1
                · have hb1 : (gx (xs.drop t) k != 1) = false := by simp [h1]
                  have Hpre2 := Lib.hid (show ∀ q, q < k + 1 → gx (xs.drop t) q = 1 from fun q hq => by
                    rcases Nat.lt_or_ge q k with h3 | h3
                    · exact hpre.out q h3
                    · obtain rfl : q = k := by omega
                      exact h1)
                  clear h1
                  go_wp2
                  go_round
                  case rel => exact ⟨k + 1, by omega, by go_num, Hpre2⟩
                  case measure => first | (simp [intOf]; done) | (simp [intOf]; omega)
                · have hb1 : (gx (xs.drop t) k != 1) = true := by simp [h1]
                  have Hno := Lib.hid (bsq_no (by
                    rw [Hfin.out, if_neg]
                    rw [Bool.not_eq_true, List.all_eq_false]
                    exact ⟨gx (xs.drop t) k, gx_mem _ _ (by rw [Hld.out]; exact hlt), by simp [h1]⟩))
                  obtain ⟨n1, n2⟩ := res_none (b := w.heap.size) hcr2 (by omega) hbw
                  have N2 := Lib.hid n2
                  clear n2 hbw hbe h1
                  go_wp2
                  exact bodyPost_ret (v := .tuple #[.agg #[.slice none 0 0], .bool false]) (by simp [results, Try.results46, go_sem, n1]) rfl (BsR.no Hno.out N2.out)
              · have hkn : k = N := by omega
                subst hkn
                have Hsome := Lib.hid (show pI (gx xs 0) 0 [gx xs 0] xs = some T by
                  rw [Hfin.out, if_pos]
                  rw [List.all_eq_true]
                  intro y hy
                  obtain ⟨q, hq, rfl⟩ := List.getElem_of_mem hy
                  have := hpre.out q (by rw [Hld.out] at hq; exact hq)
                  rw [gx_eq _ _ hq] at this
                  simp [this])
                have Hm2 := Lib.hid (show ∀ W, Below wr.heap.size wr W → Is W wr.heap.size (.slice A6 m c6) T from fun W hW => ((hv.out.ow (Nat.le_refl _)).is).below hW)
                have hcx := hv.out.cell
                have HB := Lib.hid (show bsq xs = if isBr T = true then some T else none by unfold bsq; rw [Hsome.out])
                have hd : ∀ W, (W = wr ∨ W = wr.drew ∨ W = wr.drew.drew) → Below wr.heap.size wr W ∧ wr.heap.size ≤ W.heap.size := fun W hW => by
                  rcases hW with rfl | rfl | rfl
                  · exact ⟨Below.refl _ _, Nat.le_refl _⟩
                  · exact ⟨(Below.refl _ _).drew, by simp⟩
                  · exact ⟨(Below.refl _ _).drew.drew, by simp⟩
                go_wp2_with fail
                go_region_law (first | (go_simp; go_at_call 33; refine (IsBranch_any wr.heap.size _ T _ (Hm2.out _ (hd _ (by first | exact .inl rfl | exact .inr (.inl rfl) | exact .inr (.inr rfl))).1) (by first | (simp; done) | omega)).mono ?_; rintro e w6 ⟨rfl, hb6⟩; have hb7 : Below wr.heap.size wr w6 := (hd _ (by first | exact .inl rfl | exact .inr (.inl rfl) | exact .inr (.inr rfl))).1.trans (hb6.mono (by first | (simp; done) | omega)); have p1 := (hb7.cell (p := ⟨w1.heap.size + 1, 0, none⟩) (by show w1.heap.size + 1 < _; omega)).trans hcx; have p2 := (hb7.cell (p := ⟨w.heap.size, 0, none⟩) (by show w.heap.size < _; omega)).trans hcr2; have p3 := (hb7.frozen (p := ⟨w.heap.size, 0, none⟩) (by show w.heap.size < _; omega)).trans hfr2) | (go_at_call 33; refine (IsBranch_any wr.heap.size _ T _ (Hm2.out _ (hd _ (by first | exact .inl rfl | exact .inr (.inl rfl) | exact .inr (.inr rfl))).1) (by first | (simp; done) | omega)).mono ?_; rintro e w6 ⟨rfl, hb6⟩; have hb7 : Below wr.heap.size wr w6 := (hd _ (by first | exact .inl rfl | exact .inr (.inl rfl) | exact .inr (.inr rfl))).1.trans (hb6.mono (by first | (simp; done) | omega)); have p1 := (hb7.cell (p := ⟨w1.heap.size + 1, 0, none⟩) (by show w1.heap.size + 1 < _; omega)).trans hcx; have p2 := (hb7.cell (p := ⟨w.heap.size, 0, none⟩) (by show w.heap.size < _; omega)).trans hcr2; have p3 := (hb7.frozen (p := ⟨w.heap.size, 0, none⟩) (by show w.heap.size < _; omega)).trans hfr2))
                all_goals
                  obtain ⟨r1, r2, r3⟩ := res_out (hv.out.later hb7) (b := w.heap.size) (by omega) p2 (by omega) (hbw.trans (hb7.mono hbw.size))
                  have R2 := Lib.hid r2; have R3 := Lib.hid r3
                  clear r2 r3 hb6 hb7 hbw hbe
                  go_wp2
                  exact bodyPost_ret (v := .tuple #[.agg #[.slice A6 m c6], .bool (isBr T)]) (by simp [results, Try.results46, go_sem, r1]) rfl ⟨_, T, isBr T, rfl, R2.out, R3.out, by rw [HB.out]; cases isBr T <;> rfl, fun e => by rw [HB.out, if_pos e]⟩
end WE
end Go.Proofs.Ytcnoaclijhcckaa
