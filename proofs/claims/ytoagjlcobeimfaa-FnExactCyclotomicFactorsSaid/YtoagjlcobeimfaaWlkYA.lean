/-
  WALKS, CHAPTER 2: CyclotomicFactors by the reference.
-/
import Derived.Test.YtoagjlcobeimfaaWlkY9
import Derived.Test.YtoagjlcobeimfaaWlkY2
namespace Go.Proofs.Ytoagjlcobeimfaa
open Go.RowKit Go.ChangeShapes Go.WideShapes Go.Joins Go.Deep
set_option linter.unusedVariables false
namespace WY
open K Pl WA WL WB
theorem Rx.of_is {w : World} {B : Nat} {v : Value} {xs : List Int} (h : Is w B v xs) (hB : B ≤ w.heap.size) : Rx w (some w.heap.size) v xs := by
  refine ⟨h.more hB, ?_⟩
  intro A n c e ad e2 hn e3
  obtain ⟨A', n', c', e4, _, _, h7⟩ := h
  rw [e] at e4
  cases e4
  obtain ⟨ad', e5, hb, _⟩ := h7.pos hn
  rw [e2] at e5
  obtain rfl := Option.some.inj e5
  have := Option.some.inj e3
  omega
theorem cfaF_go2 {p : List Int} (h : isPoly p = true) (h2 : p.length ≤ 51) : cfaF p = cfaE (cfR 1000 1 p []) := by
  unfold cfaF; rw [if_neg (by rw [h]; decide), if_neg (by omega)]
set_option maxRecDepth 8192 in
set_option maxHeartbeats 16000000 in
theorem sCyclotomicFactors_any (B : Nat) (v : Value) (xs : List Int) (w : World) (h : Is w B v xs) (hB : B ≤ w.heap.size) :
    Calls Try.prog 10 #[v] w (LiR2 (cfaF xs) w) := by
  have Hp := Lib.hid h
  obtain ⟨A0, n00, c0, rfl, hnc, hcm, hrd⟩ := h
  have Hlen := Lib.hid hrd.len
  unfold maxLen at hcm
  clear hrd
  cases hpo : isPoly xs
  · have Hr := Lib.hid (show cfaF xs = ([], 1) by unfold cfaF; rw [if_pos hpo])
    go_enter Try.func10, Try.ntmps10
    go_wp2_with fail
    refine (l02Is_any B _ xs _ Hp.out hB).mono ?_
    rintro e w' ⟨rfl, rfl⟩
    rw [hpo]
    go_wp2_with fail
    go_ret2
    exact LiR2.nil Hr.out (Below.refl _ _)
  · by_cases h51 : 51 < n00
    · have Hr := Lib.hid (show cfaF xs = ([], 2) by unfold cfaF; rw [if_neg (by rw [hpo]; decide), if_pos (by rw [Hlen.out]; exact h51)])
      have t1 : (51 : Int) < (n00 : Int) := by omega
      go_enter Try.func10, Try.ntmps10
      go_wp2_with fail
      refine (l02Is_any B _ xs _ Hp.out hB).mono ?_
      rintro e w' ⟨rfl, rfl⟩
      rw [hpo]
      go_wp2_with fail
      go_ret2
      exact LiR2.nil Hr.out (Below.refl _ _)
    · have t1 : ¬ (51 : Int) < (n00 : Int) := by omega
      have hown0 := OwU.lit w (lo := w.heap.size) (Nat.le_refl _)
      have hbe0 : Below w.heap.size w (w.alloc (.cells #[] 22)) := (Below.refl _ _).alloc (Nat.le_refl _) _
      by_cases h0 : n00 = 0
      · subst h0
        have Hr := Lib.hid (show cfaF xs = ([], 5) by
          obtain rfl : xs = [] := List.eq_nil_of_length_eq_zero Hlen.out
          unfold cfaF; rw [if_neg (by rw [hpo]; decide), if_neg (by simp), cfR_nil]; rfl)
        clear hown0 hbe0
        go_enter Try.func10, Try.ntmps10
        go_wp2_with fail
        refine (l02Is_any B _ xs _ Hp.out hB).mono ?_
        rintro e w' ⟨rfl, rfl⟩
        rw [hpo]
        go_wp2_with fail
        go_ret2
        exact LiR2.nil Hr.out (Below.refl _ _)
      · obtain ⟨TOT, HT⟩ : ∃ T, Hid (cfR 1000 1 xs [] = T) := ⟨_, Lib.hid rfl⟩
        have Hr := Lib.hid (show cfaF xs = cfaE TOT by rw [cfaF_go2 hpo (by rw [Hlen.out]; omega), HT.out])
        have HI := Lib.hid (CfI.start (p := xs) (by rw [Hlen.out]; omega))
        have Hpo := Lib.hid hpo
        go_enter Try.func10, Try.ntmps10
        go_wp2_with fail
        refine (l02Is_any B _ xs _ Hp.out hB).mono ?_
        rintro e w' ⟨rfl, rfl⟩
        rw [hpo]
        clear hpo
        have te0 : ((n00 : Int) == 0) = false := by simp; omega
        go_wp2_with fail
        go_loopw [4, 5, 6] (fun a b c wr => ∃ (n m L c6 cr : Nat) (A6 Ar : Option Addr) (us : List Value) (rest : List Int) (rows : List (Nat × Nat)),
          a = .slice A6 m c6 ∧ b = .slice Ar L cr ∧ c = .int .i64 n ∧ 1 ≤ n ∧ n ≤ 1001 ∧ 1 ≤ L ∧ L ≤ 51 ∧ m ≤ 51 ∧ L ≤ cr ∧ cr ≤ 9223372036854775807 ∧ Hid (rest.length = L) ∧ Hid (∃ f, f + n = 1001 ∧ cfR f n rest rows = TOT) ∧ Hid (CfI xs rest rows) ∧ Hid ((rowsF rows).length = m) ∧
          Hid (OwU wr w.heap.size wr.heap.size (.slice A6 m c6) us (rowsF rows)) ∧ Hid (Rx wr (Value.slice A6 m c6).ownBlock (.slice Ar L cr) rest) ∧ Below w.heap.size w wr) (fun _ _ c _ => 1001 - (intOf c).toNat)
        case atStart => exact ⟨1, 0, n00, 0, c0, _, A0, [], xs, [], rfl, rfl, rfl, by omega, by omega, by omega, by omega, by omega, hnc, by omega, Hlen, Lib.hid ⟨1000, rfl, HT.out⟩, HI, Lib.hid rfl, Lib.hid (show OwU _ _ _ _ _ [] from by simpa using hown0), Lib.hid ((Rx.of_is Hp.out hB).later hbe0), hbe0⟩
        case round =>
          clear hown0 hbe0 HI HT
          obtain ⟨n, m, L, c6, cr, A6, Ar, us, rest, rows, rfl, rfl, rfl, hn1, hn2, hL1, hL2, hm51, hLc, hcr, HL, Hf, HI, hm, HO, HR, hbe⟩ := hrel
          by_cases hn20 : n ≤ 1000
          · by_cases hL : 1 < L
            · have HL1 := Lib.hid (show ¬ rest.length ≤ 1 by rw [HL.out]; omega)
              obtain ⟨f, hfn, hf⟩ := Hf.out
              obtain ⟨f', rfl⟩ : ∃ f', f = f' + 1 := ⟨f - 1, by omega⟩
              have HfN := Lib.hid (show f' + (n + 1) = 1001 by omega)
              have Hst := Lib.hid (show cfR f' (n + 1) (cfD n rest).1 (cfA n (cfD n rest).2 rows) = TOT by rw [← hf, cfR_go HL1.out])
              have HI2 := Lib.hid (HI.out.step (totN_pos n hn1 (by omega)))
              obtain ⟨t, Ht⟩ : ∃ t, Hid (totN n = t) := ⟨_, Lib.hid rfl⟩
              have htb : 1 ≤ t ∧ t ≤ 2000 := by
                have h5 := totN_pos n hn1 (by omega)
                have h6 := totN_le n
                rw [Ht.out] at h5 h6
                omega
              clear hf hfn Hf
              have tl1 : (1 : Int) < (L : Int) := by omega
              have tn : (n : Int) ≤ 1000 := by omega
              have hal := (Below.refl wr.heap.size wr).alloc (Nat.le_refl _) (.cells #[] 2)
              have HOa := Lib.hid ((HO.out.later hal).wide (Nat.le_refl _) hal.size)
              have HRa := Lib.hid (HR.out.later hal)
              have hbea := hbe.trans (hal.mono hbe.size)
              go_wp2_with fail
              refine (l02Totient_any n _ hn1 hn20).mono ?_
              rintro e w2 ⟨rfl, rfl⟩
              rw [Ht.out]
              clear HO HR hbe hal
              by_cases htl : t < L
              · have tt : (t : Int) < (L : Int) := by omega
                obtain ⟨R, HR0⟩ : ∃ R, Hid ((cfD n rest).1 = R) := ⟨_, Lib.hid rfl⟩
                obtain ⟨E, HE0⟩ : ∃ E, Hid ((cfD n rest).2 = E) := ⟨_, Lib.hid rfl⟩
                rw [HR0.out, HE0.out] at Hst HI2
                have HD := Lib.hid (show cfD n rest = dvR 60 (phi n) rest by unfold cfD; rw [if_pos (by rw [Ht.out, HL.out]; exact htl)])
                rw [HD.out] at HR0 HE0
                have HE1 := Lib.hid (show 0 + (dvR 60 (phi n) rest).2 = E by rw [Nat.zero_add]; exact HE0.out)
                have Hql := Lib.hid (show (phi n).length = t + 1 by rw [phi_len, Ht.out])
                clear HD HE0 HI
                go_wp2_with fail
                refine (l02Cyclotomic_any n _ hn1 (by omega)).mono ?_
                rintro e w3 ⟨vq, rfl, ownq, hb3⟩
                have Hs2 := hb3.size
                have HO2 := Lib.hid ((HOa.out.later hb3).wide (Nat.le_refl _) Hs2)
                have HR2 := Lib.hid (HRa.out.later hb3)
                have hbe2 := hbea.trans (hb3.mono hbea.size)
                have Hq := Lib.hid ownq.is
                obtain ⟨Aq, cq, rfl, hncq, hcmq⟩ := own_shape ownq.1
                rw [Hql.out] at hncq Hq ⊢
                have Hlow := Lib.hid (show ∀ k, (Value.slice A6 m c6).ownBlock = some k → k < w3.heap.size from fun k hk => (HO2.out.row.lt k hk).2)
                clear HOa HRa hbea ownq hb3 Hs2
                go_wp2_with fail
                go_loopw [5, 7] (fun b e wi => ∃ (L' cr' e' : Nat) (Ar' : Option Addr) (rest' : List Int), b = .slice Ar' L' cr' ∧ e = .int .i64 e' ∧ 1 ≤ L' ∧ L' ≤ cr' ∧ cr' ≤ 9223372036854775807 ∧ e' + L' ≤ 60 ∧ Hid (rest'.length = L') ∧
                  Hid (∃ f, L' ≤ f ∧ (dvR f (phi n) rest').1 = R ∧ e' + (dvR f (phi n) rest').2 = E) ∧ Hid (Rx wi (Value.slice A6 m c6).ownBlock (.slice Ar' L' cr') rest') ∧ Below w3.heap.size w3 wi) (fun b _ _ => lenOf b)
                case atStart => exact ⟨L, cr, 0, Ar, rest, rfl, rfl, hL1, hLc, hcr, by omega, HL, Lib.hid ⟨60, by omega, HR0.out, HE1.out⟩, HR2, Below.refl _ _⟩
                case round =>
                  clear HR2 HR0 HE1 HL1 HL
                  obtain ⟨L', cr', e', Ar', rest', rfl, rfl, hL1', hLc', hcr', heL, HL', Hf', HR', hbi⟩ := hrel
                  have tq : (0 : Int) < ((t + 1 : Nat) : Int) := by omega
                  go_wp2_with fail
                  have Hq3 := Lib.hid ((Hq.out.below hbi).more hbi.size)
                  refine (l02Quotient_any _ _ _ rest' (phi n) _ HR'.out.1 Hq3.out (Nat.le_refl _) (by rw [HL'.out]; omega) (by rw [Hql.out]; omega) (by rw [Hql.out]; omega)).mono ?_
                  rintro e w4 ⟨v4, rfl, own4, hb4⟩
                  have Hown4 := Lib.hid own4
                  have HR4 := Lib.hid (HR'.out.later hb4)
                  have hbi4 := hbi.trans (hb4.mono hbi.size)
                  have Hs3 := Lib.hid hbi.size
                  clear HR' Hq3 own4 hb4 hbi
                  cases hbq : (qwF rest' (phi n)).2
                  · have hqs : qwS rest' (phi n) = ([], false) := by unfold qwS; rw [hbq]; rfl
                    rw [hqs] at Hown4 ⊢
                    have Hend := Lib.hid (show rest' = R ∧ e' = E by
                      obtain ⟨f, _, h5, h6⟩ := Hf'.out
                      rw [dvR_no hbq] at h5 h6
                      exact ⟨h5, h6⟩)
                    obtain ⟨rfl, rfl⟩ := Hend.out
                    clear Hend Hf' Hown4 hbq
                    have HO4 := Lib.hid ((HO2.out.later hbi4).wide (Nat.le_refl _) hbi4.size)
                    have hbe4 := hbe2.trans (hbi4.mono hbe2.size)
                    clear HO2 hbi4 hbe2 Hs3
                    have hLb : L' ≤ 51 := by
                      have h5 := HI2.out.len
                      rw [HL'.out, Hlen.out] at h5
                      omega
                    by_cases he0 : e' = 0
                    · have te : ¬ (0 : Int) < (e' : Int) := by omega
                      have Hcf := Lib.hid (show cfA n e' rows = rows by unfold cfA; rw [if_pos he0])
                      rw [Hcf.out] at Hst HI2
                      have Hf := Lib.hid (show ∃ f, f + (n + 1) = 1001 ∧ cfR f (n + 1) rest' rows = TOT from ⟨f', HfN.out, Hst.out⟩)
                      clear Hcf Hst
                      go_wp2_with fail
                      go_roundw
                      case rel => exact ⟨n + 1, m, L', c6, cr', A6, Ar', us, rest', rows, rfl, rfl, by go_num, by omega, by omega, hL1', hLb, hm51, hLc', hcr', HL', Hf, HI2, hm, HO4, HR4, hbe4⟩
                      case measure => first | (simp [intOf]; done) | (simp [intOf]; omega)
                    · have te : (0 : Int) < (e' : Int) := by omega
                      have Hcf := Lib.hid (show cfA n e' rows = rows ++ [(n, e')] by unfold cfA; rw [if_neg he0])
                      rw [Hcf.out] at Hst HI2
                      have Hf := Lib.hid (show ∃ f, f + (n + 1) = 1001 ∧ cfR f (n + 1) rest' (rows ++ [(n, e')]) = TOT from ⟨f', HfN.out, Hst.out⟩)
                      have hm50 : m + 1 ≤ 51 := by
                        have h5 := HI2.out.len
                        have h6 := hm.out
                        rw [rowsF_len] at h6
                        rw [List.length_append, Hlen.out] at h5
                        simp at h5; omega
                      clear Hcf Hst
                      have hrow : w4.ownsRow w.heap.size 22 1 (.slice A6 m c6) m us := by have h := HO4.out.row; rw [hm.out] at h; exact h
                      have hbs := hbe4.size
                      go_wp2_with (at_builtin; refine wp_append_row rfl _ _ rfl w.heap.size _ m us rfl ((hrow.alloc _).alloc _) (w4.heap.size + 1) (some ⟨w4.heap.size, 0, none⟩) 2 2 1 rfl (by simp) (by omega) (by have := hbe4.size; simp; omega) ?_)
                      intro v' w5 hown5 hgrow hat
                      have hal2 := ((Below.refl w4.heap.size w4).alloc (Nat.le_refl _) (.cells #[.int .i64 (n : Int), .int .i64 (e' : Int)] 2))
                      have how5 := Lib.hid (OwU.snoc (ys := [(n : Int), (e' : Int)]) HO4.out (Nat.le_refl _) hbs (((Below.refl _ _).alloc (Nat.le_refl _) _).alloc (by simp) _) (WA.ow_lit2 w4 _ _ _) (by rw [hm.out]; exact hown5) hgrow (by simp only [World.size_alloc]; exact hat))
                      have hbe5 : Below w.heap.size w w5 := (hbe4.trans ((((Below.refl _ _).alloc (Nat.le_refl _) _).alloc (by simp) _).mono hbs)).grown hgrow (by have := hbe4.size; simp; omega) (fun k' hk' => (hrow.lt k' hk').1)
                      have HR5 := Lib.hid ((HR4.out.later (((Below.refl _ _).alloc (Nat.le_refl _) _).alloc (by simp) _)).grown hgrow (b' := v'.ownBlock) (by simp only [World.size_alloc]; exact hat))
                      have HLr := Lib.hid (show (rowsF (rows ++ [(n, e')])).length = m + 1 by rw [rowsF_len, List.length_append, ← hm.out, rowsF_len]; rfl)
                      rw [← show rowsF (rows ++ [(n, e')]) = rowsF rows ++ [[(n : Int), (e' : Int)]] from rowsF_snoc rows (n, e')] at how5
                      obtain ⟨A7, c7, rfl, hnc7, hcm7⟩ := own_shape how5.out.row
                      rw [HLr.out] at how5 hnc7 HR5 ⊢
                      clear hown5 hgrow hat hrow HO4 HR4 hbe4 hm hal2
                      go_wp2_with fail
                      go_roundw
                      case rel => exact ⟨n + 1, m + 1, L', c7, cr', A7, Ar', _, rest', rows ++ [(n, e')], rfl, rfl, by go_num, by omega, by omega, hL1', hLb, hm50, hLc', hcr', HL', Hf, HI2, HLr, how5, HR5, hbe5⟩
                      case measure => first | (simp [intOf]; done) | (simp [intOf]; omega)
                  · have hqs : qwS rest' (phi n) = qwF rest' (phi n) := by unfold qwS; rw [hbq]; rfl
                    rw [hqs, hbq]
                    rw [hqs] at Hown4
                    clear hqs
                    have hql := qwF_len hbq
                    rw [HL'.out, Hql.out] at hql
                    obtain ⟨A4, c4, rfl, hnc4, hcm4⟩ := own_shape Hown4.out.1
                    have HR5 := Lib.hid (Rx.of_ow (b := (Value.slice A6 m c6).ownBlock) Hown4.out (fun k hk => Nat.lt_of_lt_of_le (Hlow.out k hk) Hs3.out))
                    have Hf2 := Lib.hid (show ∃ f, (qwF rest' (phi n)).1.length ≤ f ∧ (dvR f (phi n) (qwF rest' (phi n)).1).1 = R ∧ (e' + 1) + (dvR f (phi n) (qwF rest' (phi n)).1).2 = E by
                      obtain ⟨f, h4, h5, h6⟩ := Hf'.out
                      obtain ⟨g, rfl⟩ : ∃ g, f = g + 1 := ⟨f - 1, by omega⟩
                      rw [dvR_yes hbq] at h5 h6
                      exact ⟨g, by rw [hql.2]; omega, h5, by simp only at h6; omega⟩)
                    have Hrl := Lib.hid hql.2
                    obtain ⟨hq1, hq2⟩ := hql
                    clear Hown4 HR4 Hf' hbq
                    generalize (qwF rest' (phi n)).1 = rest2 at *
                    rw [hq2] at hnc4 HR5 ⊢
                    rw [hq2] at Hf2
                    have hL2 : 1 ≤ L' - (t + 1) + 1 ∧ L' - (t + 1) + 1 + 1 ≤ L' := by omega
                    generalize L' - (t + 1) + 1 = L2 at *
                    go_wp2_with fail
                    go_roundw
                    case rel => exact ⟨L2, c4, e' + 1, A4, rest2, rfl, by go_num, by omega, hnc4, hcm4, by omega, Hrl, Hf2, HR5, hbi4⟩
                    case measure => simp [lenOf]; omega
              · have tt : ¬ (t : Int) < (L : Int) := by omega
                have HD := Lib.hid (show cfD n rest = (rest, 0) by unfold cfD; rw [if_neg (by rw [Ht.out, HL.out]; exact htl)])
                rw [HD.out] at Hst HI2
                have Hf := Lib.hid (show ∃ f, f + (n + 1) = 1001 ∧ cfR f (n + 1) rest rows = TOT from ⟨f', HfN.out, Hst.out⟩)
                have HI3 := Lib.hid (show CfI xs rest rows from HI2.out)
                clear Hst HI2 HI HD
                go_wp2_with fail
                refine wp_loop_rounds 1 ?_
                rw [rounds_succ]
                go_wp2_with fail
                go_roundw
                case rel => exact ⟨n + 1, m, L, c6, cr, A6, Ar, us, rest, rows, rfl, rfl, by go_num, by omega, by omega, hL1, hL2, hm51, hLc, hcr, HL, Hf, HI3, hm, HOa, HRa, hbea⟩
                case measure => first | (simp [intOf]; done) | (simp [intOf]; omega)
            · have HTe := Lib.hid (show (rest, rows) = TOT by
                obtain ⟨f, _, hf⟩ := Hf.out
                rw [← hf, cfR_stop (by rw [HL.out]; omega)])
              have tl1 : ¬ (1 : Int) < (L : Int) := by omega
              have tn : (n : Int) ≤ 1000 := by omega
              clear Hf
              by_cases hL1' : L = 1
              · by_cases hg : gx rest 0 = 1 ∨ gx rest 0 = -1
                · have tL : ((L : Int) != 1) = false := by simp; omega
                  obtain ⟨g0, hg0⟩ : ∃ g, gx rest 0 = g := ⟨_, rfl⟩
                  have hgb : -1000000000000 ≤ g0 ∧ g0 ≤ 1000000000000 := by
                    have h5 := HI.out.last
                    rw [HL.out, show L - 1 = 0 by omega, hg0] at h5
                    rw [h5]; exact isPoly_gx Hpo.out _
                  have hcell : ∃ ad : Addr, Ar = some ad ∧ wr.cell? ad = some (.int .i64 g0) := by
                    obtain ⟨A', n', c', e, _, _, h7⟩ := HR.out.1
                    cases e
                    obtain ⟨ad, e2, _, h8⟩ := h7.pos (by omega)
                    have h9 := h8 0 (by omega)
                    rw [hg0] at h9
                    exact ⟨ad, e2, by simpa [Addr.add] using h9⟩
                  obtain ⟨ad, rfl, hcell⟩ := hcell
                  have tA : g0 = 1 ∨ g0 = -1 := by rw [← hg0]; exact hg
                  have Hr2 := Lib.hid (show cfaF xs = (rowsF rows, 0) by rw [Hr.out, ← HTe.out]; unfold cfaE; rw [if_pos ⟨by show rest.length = 1; rw [HL.out]; omega, hg⟩])
                  clear HTe Hr HR HI hg0 hg
                  rcases tA with rfl | rfl
                  · go_wp2_with fail
                    go_ret2
                    exact ⟨_, by rw [Hr2.out]; rfl, by rw [Hr2.out]; exact ⟨us, HO.out⟩, hbe⟩
                  · go_wp2_with fail
                    go_ret2
                    exact ⟨_, by rw [Hr2.out]; rfl, by rw [Hr2.out]; exact ⟨us, HO.out⟩, hbe⟩
                · have tL : ((L : Int) != 1) = false := by simp; omega
                  obtain ⟨g0, hg0⟩ : ∃ g, gx rest 0 = g := ⟨_, rfl⟩
                  have hgb : -1000000000000 ≤ g0 ∧ g0 ≤ 1000000000000 := by
                    have h5 := HI.out.last
                    rw [HL.out, show L - 1 = 0 by omega, hg0] at h5
                    rw [h5]; exact isPoly_gx Hpo.out _
                  have hcell : ∃ ad : Addr, Ar = some ad ∧ wr.cell? ad = some (.int .i64 g0) := by
                    obtain ⟨A', n', c', e, _, _, h7⟩ := HR.out.1
                    cases e
                    obtain ⟨ad, e2, _, h8⟩ := h7.pos (by omega)
                    have h9 := h8 0 (by omega)
                    rw [hg0] at h9
                    exact ⟨ad, e2, by simpa [Addr.add] using h9⟩
                  obtain ⟨ad, rfl, hcell⟩ := hcell
                  have tA : ¬ (g0 = 1 ∨ g0 = -1) := by rw [← hg0]; exact hg
                  have tA1 : (g0 != 1) = true := by simp; omega
                  have tA2 : (g0 != -1) = true := by simp; omega
                  have Hr2 := Lib.hid (show cfaF xs = ([], 5) by rw [Hr.out, ← HTe.out]; unfold cfaE; rw [if_neg (fun h => hg h.2)])
                  clear HTe Hr HR HI hg0
                  go_wp2_with fail
                  go_ret2
                  exact LiR2.nil Hr2.out hbe
              · omega
          · have HTe := Lib.hid (show (rest, rows) = TOT by
              obtain ⟨f, hfn, hf⟩ := Hf.out
              obtain rfl : f = 0 := by omega
              exact hf)
            have tn : ¬ (n : Int) ≤ 1000 := by omega
            clear Hf
            by_cases hL1' : L = 1
            · by_cases hg : gx rest 0 = 1 ∨ gx rest 0 = -1
              · have tL : ((L : Int) != 1) = false := by simp; omega
                obtain ⟨g0, hg0⟩ : ∃ g, gx rest 0 = g := ⟨_, rfl⟩
                have hgb : -1000000000000 ≤ g0 ∧ g0 ≤ 1000000000000 := by
                  have h5 := HI.out.last
                  rw [HL.out, show L - 1 = 0 by omega, hg0] at h5
                  rw [h5]; exact isPoly_gx Hpo.out _
                have hcell : ∃ ad : Addr, Ar = some ad ∧ wr.cell? ad = some (.int .i64 g0) := by
                  obtain ⟨A', n', c', e, _, _, h7⟩ := HR.out.1
                  cases e
                  obtain ⟨ad, e2, _, h8⟩ := h7.pos (by omega)
                  have h9 := h8 0 (by omega)
                  rw [hg0] at h9
                  exact ⟨ad, e2, by simpa [Addr.add] using h9⟩
                obtain ⟨ad, rfl, hcell⟩ := hcell
                have tA : g0 = 1 ∨ g0 = -1 := by rw [← hg0]; exact hg
                have Hr2 := Lib.hid (show cfaF xs = (rowsF rows, 0) by rw [Hr.out, ← HTe.out]; unfold cfaE; rw [if_pos ⟨by show rest.length = 1; rw [HL.out]; omega, hg⟩])
                clear HTe Hr HR HI hg0 hg
                rcases tA with rfl | rfl
                · go_wp2_with fail
                  go_ret2
                  exact ⟨_, by rw [Hr2.out]; rfl, by rw [Hr2.out]; exact ⟨us, HO.out⟩, hbe⟩
                · go_wp2_with fail
                  go_ret2
                  exact ⟨_, by rw [Hr2.out]; rfl, by rw [Hr2.out]; exact ⟨us, HO.out⟩, hbe⟩
              · have tL : ((L : Int) != 1) = false := by simp; omega
                obtain ⟨g0, hg0⟩ : ∃ g, gx rest 0 = g := ⟨_, rfl⟩
                have hgb : -1000000000000 ≤ g0 ∧ g0 ≤ 1000000000000 := by
                  have h5 := HI.out.last
                  rw [HL.out, show L - 1 = 0 by omega, hg0] at h5
                  rw [h5]; exact isPoly_gx Hpo.out _
                have hcell : ∃ ad : Addr, Ar = some ad ∧ wr.cell? ad = some (.int .i64 g0) := by
                  obtain ⟨A', n', c', e, _, _, h7⟩ := HR.out.1
                  cases e
                  obtain ⟨ad, e2, _, h8⟩ := h7.pos (by omega)
                  have h9 := h8 0 (by omega)
                  rw [hg0] at h9
                  exact ⟨ad, e2, by simpa [Addr.add] using h9⟩
                obtain ⟨ad, rfl, hcell⟩ := hcell
                have tA : ¬ (g0 = 1 ∨ g0 = -1) := by rw [← hg0]; exact hg
                have tA1 : (g0 != 1) = true := by simp; omega
                have tA2 : (g0 != -1) = true := by simp; omega
                have Hr2 := Lib.hid (show cfaF xs = ([], 5) by rw [Hr.out, ← HTe.out]; unfold cfaE; rw [if_neg (fun h => hg h.2)])
                clear HTe Hr HR HI hg0
                go_wp2_with fail
                go_ret2
                exact LiR2.nil Hr2.out hbe
            · have tL : ((L : Int) != 1) = true := by simp; omega
              have Hr2 := Lib.hid (show cfaF xs = ([], 5) by rw [Hr.out, ← HTe.out]; unfold cfaE; rw [if_neg (by rw [HL.out]; omega)])
              clear HTe Hr HO HR HI
              go_wp2_with fail
              go_ret2
              exact LiR2.nil Hr2.out hbe
end WY
end Go.Proofs.Ytoagjlcobeimfaa
